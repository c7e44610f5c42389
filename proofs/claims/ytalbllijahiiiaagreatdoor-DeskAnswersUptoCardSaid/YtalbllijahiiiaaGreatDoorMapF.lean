/- A map's block, by what it holds at each key: look-up, 'm[k]++' as the translation has it (look-up, entry, store of the entry), 'm[k] = v', the steps of a range. No conditions. -/
import Derived.Maps.RangeWalk
import Derived.Maps.OwnSet
namespace Go.Mine
open Go Go.RowKit Go.Maps Go.MapKept Go.ChangeMaps

/-- Block b is a map of these entries; 'F' is what it holds at each key. -/
structure MapF {α : Type} (P : Program) (k : TypeId) (K : α → Value) (w : World) (b : Nat) (F : α → Option Value) (es : Array MapEntry) (clock : Nat) : Prop where
  block : w.heap[b]? = some (.map es clock)
  stamped : Stamped es clock
  legal : ∀ e ∈ es.toList, ∃ l, keyOf P k e.key = some l
  holds : ∀ e ∈ es.toList, ∃ x, e.key = K x ∧ F x = some e.val
  has : ∀ x v, F x = some v → ∃ e ∈ es.toList, e.key = K x ∧ e.val = v
def HasMap {α : Type} (P : Program) (k : TypeId) (K : α → Value) (w : World) (b : Nat) (F : α → Option Value) : Prop := ∃ es clock, MapF P k K w b F es clock

section
variable {α : Type} {P : Program} {k t e : TypeId} {K : α → Value} {w : World} {b : Nat} {F : α → Option Value} {es : Array MapEntry} {clock : Nat}

def upd [DecidableEq α] (F : α → Option Value) (x : α) (v : Value) : α → Option Value := fun y => if y = x then some v else F y
theorem HasMap.made (P : Program) (k : TypeId) (K : α → Value) (w : World) : HasMap P k K (w.alloc (.map #[] 0)) w.heap.size (fun _ => none) :=
  ⟨#[], 0, ⟨heap_alloc_new _ _, ⟨by simp, by simp, by simp⟩, by simp, by simp, fun _ _ h => by cases h⟩⟩
theorem MapF.to {F' : α → Option Value} (h : MapF P k K w b F es clock) {w' : World} (hb : w'.heap[b]? = w.heap[b]?) (hF : ∀ x, F' x = F x) : MapF P k K w' b F' es clock :=
  ⟨hb.trans h.block, h.stamped, h.legal, fun e he => by obtain ⟨x, h1, h2⟩ := h.holds e he; exact ⟨x, h1, (hF x).trans h2⟩, fun x v hv => h.has x v ((hF x).symm.trans hv)⟩
theorem HasMap.to {F' : α → Option Value} (h : HasMap P k K w b F) {w' : World} (hb : w'.heap[b]? = w.heap[b]?) (hF : ∀ x, F' x = F x) : HasMap P k K w' b F' := by
  obtain ⟨es, clock, h⟩ := h
  exact ⟨es, clock, h.to hb hF⟩
theorem HasMap.keep (h : HasMap P k K w b F) {w' : World} (hb : w'.heap[b]? = w.heap[b]?) : HasMap P k K w' b F := h.to hb (fun _ => rfl)
theorem HasMap.lt (h : HasMap P k K w b F) : b < w.heap.size := by
  obtain ⟨es, clock, h⟩ := h
  exact (Array.getElem?_eq_some_iff.1 h.block).1
theorem MapF.is_some (h : MapF P k K w b F es clock) (inj : ∀ x y, K x = K y → x = y) {x : α} {e0 : MapEntry} (he : e0 ∈ es.toList) (hk : e0.key = K x) : F x = some e0.val := by
  obtain ⟨y, h1, h2⟩ := h.holds e0 he
  rw [inj x y (hk.symm.trans h1)]
  exact h2
theorem MapF.is_none (h : MapF P k K w b F es clock) {x : α} (hn : ∀ e ∈ es.toList, e.key ≠ K x) : F x = none := by
  cases hv : F x with
  | none => rfl
  | some v =>
    obtain ⟨e0, he, hk, _⟩ := h.has x v hv
    exact absurd hk (hn e0 he)

/-- 'm[k]' and 'v, ok := m[k]'. -/
theorem HasMap.look (h : HasMap P k K w b F) (c : Bool) (Kd : Keyed P k) (ht : P.underlying t = some (.map k e)) (inj : ∀ x y, K x = K y → x = y) {z : Value} (hz : (zeroValue e).run P w = .ok z w) {x : α} {l : Lit} (hl : keyOf P k (K x) = some l) :
    (Instr.lookup t (.map (some b)) (K x) c).run P w = .ok (if c then .tuple #[(F x).getD z, .bool (F x).isSome] else (F x).getD z) w := by
  obtain ⟨es, clock, h⟩ := h
  rcases Kd.find w hl es.toList h.legal with ⟨h1, h2⟩ | ⟨j, e0, h1, h2, h3⟩
  · rw [h.is_none h2]
    simp [Instr.lookup, run_underlying ht, MapKept.run_getObj_map h.block, Kd.check w _ hl, h1, hz, Result.andThen]
  · rw [h.is_some inj (List.mem_of_getElem? h2) h3]
    simp [Instr.lookup, run_underlying ht, MapKept.run_getObj_map h.block, Kd.check w _ hl, h1, Result.andThen]

theorem born_eq {es : Array MapEntry} {clock : Nat} (h : Stamped es clock) {i j : Nat} {a c : MapEntry} (hi : es.toList[i]? = some a) (hj : es.toList[j]? = some c) (hb : a.born = c.born) : i = j := by
  obtain ⟨hi', ei⟩ := List.getElem?_eq_some_iff.1 hi
  obtain ⟨hj', ej⟩ := List.getElem?_eq_some_iff.1 hj
  have hn := h.2.1
  have := (List.getElem_inj (xs := es.toList.map (·.born)) (i := i) (j := j) (h₀ := by simpa using hi') (h₁ := by simpa using hj') hn).1 (by simp only [List.getElem_map]; rw [ei, ej]; exact hb)
  exact this
theorem key_eq {es : Array MapEntry} {clock : Nat} (h : Stamped es clock) {i j : Nat} {a c : MapEntry} (hi : es.toList[i]? = some a) (hj : es.toList[j]? = some c) (hb : a.key = c.key) : i = j := by
  obtain ⟨hi', ei⟩ := List.getElem?_eq_some_iff.1 hi
  obtain ⟨hj', ej⟩ := List.getElem?_eq_some_iff.1 hj
  have hn := h.2.2
  have := (List.getElem_inj (xs := es.toList.map (·.key)) (i := i) (j := j) (h₀ := by simpa using hi') (h₁ := by simpa using hj') hn).1 (by simp only [List.getElem_map]; rw [ei, ej]; exact hb)
  exact this
theorem find_stamp {es : Array MapEntry} {clock : Nat} (h : Stamped es clock) {j : Nat} {e0 : MapEntry} (hj : es.toList[j]? = some e0) : es.findIdx? (fun e => (e.born : Int) == (e0.born : Int)) = some j := by
  rw [Array.findIdx?_eq_some_iff_getElem]
  obtain ⟨hj', ej⟩ := List.getElem?_eq_some_iff.1 hj
  refine ⟨by simpa using hj', by rw [← Array.getElem_toList, ej]; simp, fun i hi => ?_⟩
  intro hc
  have hi' : i < es.toList.length := by omega
  rw [← Array.getElem_toList] at hc
  have hc' : ((es.toList[i]).born : Int) = e0.born := by simpa using hc
  have := born_eq h (List.getElem?_eq_getElem hi') hj (by omega)
  omega
/-- A store into an entry. -/
theorem run_entryStore (w : World) (t : TypeId) {b : Nat} {es : Array MapEntry} {clock : Nat} (hb : w.heap[b]? = some (.map es clock)) (h : Stamped es clock) {j : Nat} {e0 : MapEntry} (hj : es.toList[j]? = some e0) (v : Value) :
    (Instr.entryStore t (.map (some b)) (.int .i64 e0.born) v).run P w = .ok () (setBlock w b (.map (es.modify j fun e => { e with val := v }) clock)) := by
  simp [Instr.entryStore, MapKept.run_getObj_map hb, asInt, asIntOf, find_stamp h hj, MapKept.run_setObj_map _ hb, Result.andThen, setBlock]
/-- .. what the block is then. -/
theorem MapF.stored [DecidableEq α] (h : MapF P k K w b F es clock) (inj : ∀ x y, K x = K y → x = y) {j : Nat} {e0 : MapEntry} (hj : es.toList[j]? = some e0) {x : α} (hk : e0.key = K x) (v : Value) :
    MapF P k K (setBlock w b (.map (es.modify j fun e => { e with val := v }) clock)) b (upd F x v) (es.modify j fun e => { e with val := v }) clock := by
  have hlist : (es.modify j fun e => { e with val := v }).toList = es.toList.set j { e0 with val := v } := by rw [Array.toList_modify, modify_eq_set _ _ _ _ hj]
  have hjl : j < es.toList.length := (List.getElem?_eq_some_iff.1 hj).1
  have mem : ∀ e, e ∈ es.toList.set j { e0 with val := v } → e = { e0 with val := v } ∨ (e ∈ es.toList ∧ e.key ≠ K x) := by
    intro e he
    obtain ⟨i, hi, ex⟩ := List.getElem_of_mem he
    rw [List.getElem_set] at ex
    split at ex
    · exact .inl ex.symm
    · rename_i hne
      have hi' : i < es.toList.length := by simpa using hi
      refine .inr ⟨ex ▸ List.getElem_mem hi', fun hc => hne ?_⟩
      exact (key_eq h.stamped (i := i) (j := j) (by rw [List.getElem?_eq_getElem hi', ex]) hj (hc.trans hk.symm)).symm
  refine ⟨heap_setBlock_same h.block _, stamped_modify h.stamped _ _ (fun _ _ => rfl) (fun _ _ _ => rfl), fun e he => ?_, fun e he => ?_, fun y u hy => ?_⟩
  · rw [hlist] at he
    rcases mem e he with rfl | ⟨he, _⟩
    · exact h.legal e0 (List.mem_of_getElem? hj)
    · exact h.legal e he
  · rw [hlist] at he
    rcases mem e he with rfl | ⟨he, hne⟩
    · exact ⟨x, hk, by simp [upd]⟩
    · obtain ⟨y, h1, h2⟩ := h.holds e he
      refine ⟨y, h1, ?_⟩
      unfold upd
      rw [if_neg (fun hc => hne (by rw [h1, hc]))]
      exact h2
  · rw [hlist]
    unfold upd at hy
    by_cases hyx : y = x
    · rw [if_pos hyx] at hy
      subst hyx
      exact ⟨{ e0 with val := v }, List.mem_iff_getElem.2 ⟨j, by simpa using hjl, by simp⟩, hk, Option.some.inj hy⟩
    · rw [if_neg hyx] at hy
      obtain ⟨e1, he1, h1, h2⟩ := h.has y u hy
      obtain ⟨i, hi, ei⟩ := List.getElem_of_mem he1
      have hij : j ≠ i := fun hc => by
        subst hc
        have : e1 = e0 := by
          have := (List.getElem?_eq_getElem hi).symm.trans hj
          rw [ei] at this
          exact Option.some.inj this
        rw [this] at h1
        exact hyx (inj y x (h1.symm.trans hk))
      exact ⟨e1, List.mem_iff_getElem.2 ⟨i, by simpa using hi, by rw [List.getElem_set_ne hij]; exact ei⟩, h1, h2⟩
theorem MapF.pushed [DecidableEq α] (h : MapF P k K w b F es clock) {x : α} {l : Lit} (hl : keyOf P k (K x) = some l) (hn : ∀ e ∈ es.toList, e.key ≠ K x) (v : Value) :
    MapF P k K (setBlock w b (.map (es.push { key := K x, val := v, born := clock }) (clock + 1))) b (upd F x v) (es.push { key := K x, val := v, born := clock }) (clock + 1) := by
  refine ⟨heap_setBlock_same h.block _, stamped_push h.stamped hn, fun e he => ?_, fun e he => ?_, fun y u hy => ?_⟩
  · simp only [Array.toList_push, List.mem_append, List.mem_singleton] at he
    rcases he with he | rfl
    · exact h.legal e he
    · exact ⟨l, hl⟩
  · simp only [Array.toList_push, List.mem_append, List.mem_singleton] at he
    rcases he with he | rfl
    · obtain ⟨y, h1, h2⟩ := h.holds e he
      refine ⟨y, h1, ?_⟩
      unfold upd
      rw [if_neg (fun hc => hn e he (by rw [h1, hc]))]
      exact h2
    · exact ⟨x, rfl, by simp [upd]⟩
  · simp only [Array.toList_push, List.mem_append, List.mem_singleton]
    unfold upd at hy
    by_cases hyx : y = x
    · rw [if_pos hyx] at hy
      subst hyx
      exact ⟨_, .inr rfl, rfl, Option.some.inj hy⟩
    · rw [if_neg hyx] at hy
      obtain ⟨e1, he1, h1, h2⟩ := h.has y u hy
      exact ⟨e1, .inl he1, h1, h2⟩
theorem MapF.grown (h : MapF P k K w b F es clock) (es' : Array MapEntry) (c' : Nat) : w.grownBy (setBlock w b (.map es' c')) (some b) :=
  ⟨rfl, rfl, rfl, by simp [setBlock], fun i _ hi => heap_setBlock_other h.block _ (fun e => hi (by rw [e]))⟩
theorem setBlock_size (w : World) (b : Nat) (o : Obj) : (setBlock w b o).heap.size = w.heap.size := by simp [setBlock]

/-- 'm[k] op= ..' in its parts: the look-up ahead of the entry and behind it, the entry, the store. -/
theorem HasMap.bump [DecidableEq α] (h : HasMap P k K w b F) (Kd : Keyed P k) (ht : P.underlying t = some (.map k e)) (inj : ∀ x y, K x = K y → x = y) {z : Value} (hz : ∀ w, (zeroValue e).run P w = .ok z w) {x : α} {l : Lit} (hl : keyOf P k (K x) = some l) (v : Value) :
    ∃ (st : Nat) (w2 w4 : World), (Instr.lookup t (.map (some b)) (K x) false).run P w = .ok ((F x).getD z) w ∧
      (Instr.mapEntry t (.map (some b)) (K x)).run P w = .ok (.tuple #[(F x).getD z, .int .i64 st]) w2 ∧
      (Instr.lookup t (.map (some b)) (K x) false).run P w2 = .ok ((F x).getD z) w2 ∧
      (Instr.entryStore t (.map (some b)) (.int .i64 st) v).run P w2 = .ok () w4 ∧
      HasMap P k K w4 b (upd F x v) ∧ w.grownBy w4 (some b) ∧ w4.heap.size = w.heap.size := by
  have hlook := h.look false Kd ht inj (hz w) hl
  obtain ⟨es, clock, h⟩ := h
  rcases Kd.find w hl es.toList h.legal with ⟨h1, h2⟩ | ⟨j, e0, h1, h2, h3⟩
  · have h0 := h.is_none h2
    have hp := h.pushed hl h2 z
    have hlast : (es.push { key := K x, val := z, born := clock }).toList[es.size]? = some { key := K x, val := z, born := clock } := by simp
    have hs := run_entryStore (P := P) _ t hp.block hp.stamped hlast v
    have hf := hp.stored inj hlast (x := x) rfl v
    refine ⟨clock, _, _, by simpa using hlook, ?_, ?_, hs, ⟨_, _, hf.to (F' := upd F x v) rfl (fun y => ?_)⟩, ?_, ?_⟩
    · rw [h0]
      simp [Instr.mapEntry, run_underlying ht, MapKept.run_getObj_map h.block, Kd.check w false hl, h1, hz, MapKept.run_setObj_map _ h.block, Result.andThen, setBlock, goInt]
    · have := HasMap.look ⟨_, _, hp⟩ false Kd ht inj (hz _) hl
      rw [h0]
      simpa [upd] using this
    · unfold upd
      split <;> rfl
    · have g1 := h.grown (es.push { key := K x, val := z, born := clock }) (clock + 1)
      have g2 := hp.grown ((es.push { key := K x, val := z, born := clock }).modify es.size fun e => { e with val := v }) (clock + 1)
      exact ⟨rfl, rfl, rfl, by simp [setBlock], fun i hi hne => (g2.block i (by simpa [setBlock] using hi) hne).trans (g1.block i hi hne)⟩
    · simp [setBlock]
  · have hm := List.mem_of_getElem? h2
    have h0 := h.is_some inj hm h3
    have hj : es[j]? = some e0 := by simpa using h2
    have hjl : j < es.size := by simpa using (List.getElem?_eq_some_iff.1 h2).1
    have hsame : es.modify j (fun e => { e with key := K x }) = es := by
      apply Array.ext_getElem?
      intro i
      rw [Array.getElem?_modify]
      by_cases hij : j = i
      · subst hij
        rw [if_pos rfl, hj]
        simp [← h3]
      · rw [if_neg hij]
    have hw2 : setBlock w b (.map es clock) = w := by
      unfold setBlock
      have : w.heap.setIfInBounds b (.map es clock) = w.heap := by
        apply Array.ext_getElem?
        intro i
        rw [Array.getElem?_setIfInBounds]
        by_cases hib : b = i
        · subst hib
          rw [if_pos rfl, if_pos (Array.getElem?_eq_some_iff.1 h.block).1, h.block]
        · rw [if_neg hib]
      rw [this]
    have hs := run_entryStore (P := P) w t h.block h.stamped h2 v
    have hf := h.stored inj h2 h3 v
    refine ⟨e0.born, w, _, by simpa using hlook, ?_, by simpa using hlook, hs, ⟨_, _, hf⟩, h.grown _ _, by simp [setBlock]⟩
    rw [h0]
    have hst := Kd.stays w hl
    have hset : (setObj b (.map es clock)).run P w = .ok () w := by
      rw [MapKept.run_setObj_map _ h.block]
      exact congrArg _ hw2
    have hk2 : ((es[j]?).map (·.key)).getD (K x) = K x := by rw [hj]; simp [h3]
    have hb2 : ((es[j]?).map (·.born)).getD 0 = e0.born := by rw [hj]; rfl
    simp [Instr.mapEntry, run_underlying ht, MapKept.run_getObj_map h.block, Kd.check w false hl, h1, hj, h3, hst, hsame, hset, Result.andThen, goInt]

/-- 'm[k] = v'. -/
theorem HasMap.store [DecidableEq α] (h : HasMap P k K w b F) (Kd : Keyed P k) (ht : P.underlying t = some (.map k e)) (inj : ∀ x y, K x = K y → x = y) {x : α} {l : Lit} (hl : keyOf P k (K x) = some l) (v : Value) :
    ∃ w', (Instr.mapUpdate t (.map (some b)) (K x) v).run P w = .ok () w' ∧ HasMap P k K w' b (upd F x v) ∧ w.grownBy w' (some b) ∧ w'.heap.size = w.heap.size := by
  obtain ⟨es, clock, h⟩ := h
  rcases Kd.find w hl es.toList h.legal with ⟨h1, h2⟩ | ⟨j, e0, h1, h2, h3⟩
  · refine ⟨_, ?_, ⟨_, _, h.pushed hl h2 v⟩, h.grown _ _, by simp [setBlock]⟩
    simp [Instr.mapUpdate, run_underlying ht, MapKept.run_getObj_map h.block, Kd.check w false hl, h1, MapKept.run_setObj_map _ h.block, Result.andThen, setBlock]
  · have hj : es[j]? = some e0 := by simpa using h2
    have hsame : es.modify j (fun e => { e with key := K x, val := v }) = es.modify j (fun e => { e with val := v }) := by
      apply Array.ext_getElem?
      intro i
      rw [Array.getElem?_modify, Array.getElem?_modify]
      by_cases hij : j = i
      · subst hij
        rw [if_pos rfl, if_pos rfl, hj]
        simp [← h3]
      · rw [if_neg hij, if_neg hij]
    refine ⟨_, ?_, ⟨_, _, h.stored inj h2 h3 v⟩, h.grown _ _, by simp [setBlock]⟩
    simp [Instr.mapUpdate, run_underlying ht, MapKept.run_getObj_map h.block, Kd.check w false hl, h1, hj, h3, Kd.stays w hl, hsame, MapKept.run_setObj_map _ h.block, Result.andThen, setBlock]
end

/-! ### Ranging over a map that the loop does not write -/
/-- 'range m'. -/
theorem wpList_range_raw {P : Program} (w : World) {ops : Array Oper} {rest : List Oper} {o : Oper} {a : Act} {Q : Exit → Act → World → Prop} (hg : o.guard = none) (m : Operand) (t : TypeId) (hop : o.op = Op.range t m) (k e : TypeId) (ht : P.underlying t = some (.map k e)) (b : Nat) (es : Array MapEntry) (clock : Nat)
    (hm : a.eval m = .map (some b)) (hb : w.heap[b]? = some (.map es clock))
    (hK : wpList P ops Q rest (a.put o.dst (.pointer (some ⟨w.heap.size, 0, none⟩))) (w.alloc (.mapIter (some b) clock #[] clock))) :
    wpList P ops Q (o :: rest) a w := by
  refine wpList_plain hg fun K' hK' => ?_
  unfold Oper.wp
  simp [execOp, hop, hm, run_range_map w t k e b es clock ht hb, Result.andThen]
  exact hK' _ _ hK
/-- A step: either nothing is left, or an entry has come. -/
theorem wpList_next_raw {P : Program} (w : World) {ops : Array Oper} {rest : List Oper} {o : Oper} {a : Act} {Q : Exit → Act → World → Prop} (hg : o.guard = none) (it : Operand) (hop : o.op = Op.next it false) (b r since c0 : Nat) (seen : Array Nat) (es : Array MapEntry) (clock : Nat)
    (hit : a.eval it = .pointer (some ⟨r, 0, none⟩)) (hr : w.heap[r]? = some (.mapIter (some b) since seen c0)) (hb : w.heap[b]? = some (.map es clock)) (hold : ∀ x ∈ es.toList, x.born < since) (hsc : since ≤ c0)
    (hDone : (leftOf es seen).size = 0 → wpList P ops Q rest (a.put o.dst (.tuple #[.bool false])) w)
    (hMore : ∀ (x : MapEntry) (w1 : World), x ∈ (leftOf es seen).toList → (w1 = w ∨ w1 = w.drew) → wpList P ops Q rest (a.put o.dst (.tuple #[.bool true, x.key, x.val])) (setBlock w1 r (.mapIter (some b) since (seen.push x.born) clock))) :
    wpList P ops Q (o :: rest) a w := by
  refine wpList_plain hg fun K' hK' => ?_
  unfold Oper.wp
  rcases run_next_at (P := P) w o.type r b since c0 seen es clock hr hb hold hsc with ⟨h0, hrun⟩ | ⟨x, hx, w1, hw1, hrun⟩
  · simp [execOp, hop, hit, hrun, Result.andThen]
    exact hK' _ _ (hDone h0)
  · simp [execOp, hop, hit, hrun, Result.andThen]
    exact hK' _ _ (hMore x w1 hx hw1)
theorem left_push {es : Array MapEntry} {seen : Array Nat} {x : MapEntry} (hx : x ∈ (leftOf es seen).toList) : (leftOf es (seen.push x.born)).size < (leftOf es seen).size := by
  unfold leftOf at hx ⊢
  have h1 : es.filter (fun e => !(seen.push x.born).contains e.born) = (es.filter fun e => !seen.contains e.born).filter (fun e => !(e.born == x.born)) := by
    rw [Array.filter_filter]
    congr 1
    funext e
    rw [Array.contains_push]
    cases seen.contains e.born <;> cases e.born == x.born <;> rfl
  rw [h1]
  have h2 : x ∈ es.filter fun e => !seen.contains e.born := by simpa using hx
  have h3 := Array.size_filter_lt_size_iff_exists (xs := es.filter fun e => !seen.contains e.born) (p := fun e => !(e.born == x.born))
  exact h3.2 ⟨x, h2, by simp⟩
theorem left_none {es : Array MapEntry} {seen : Array Nat} (h : (leftOf es seen).size = 0) : ∀ e ∈ es.toList, e.born ∈ seen.toList := by
  intro e he
  have h1 : leftOf es seen = #[] := Array.eq_empty_of_size_eq_zero h
  unfold leftOf at h1
  rw [Array.filter_eq_empty_iff] at h1
  have := h1 (a := e) (by simpa using he)
  simpa using this
end Go.Mine
