/- assayerref2.MadeOf, HasWord. No conditions. -/
import Derived.Test.YtfdjnofkoegbdaaDoorGram7
import Derived.Deep.OwnRows
namespace Go.Proofs.YtfdjnofkoegbdaaDoor
open Go.RowKit Go.Mine Go.Mine.Gram

theorem infoB1 : (Tryd.prog.info? 4).map (fun i => (i.zero, i.size, i.bytes)) = some (some (.bool false), 1, 1) := by kernel_rfl
theorem infoB2 : (Tryd.prog.info? 52).map (fun i => (i.zero, i.size, i.bytes)) = some (some (.slice none 0 0), 1, 24) := by kernel_rfl
theorem infoB3 : (Tryd.prog.info? 53).map (fun i => (i.zero, i.size, i.bytes)) = some (some (.slice none 0 0), 1, 24) := by kernel_rfl
/-- A row of L flags, none set, at block g. -/
def sl (L g : Nat) : Value := .slice (some ⟨g, 0, none⟩) L L
def rowObj (L : Nat) : Obj := .cells (madeCells #[Value.bool false] L) 4 (0, 0)
/-- In the midst of the making: the flags' blocks in their order, the rows' blocks. -/
structure Mk8 (W w : World) (L i k : Nat) (pall qall : List Nat) (vr vm : Value) (ms : List Value) : Prop where
  plen : pall.length = i * L + k
  qlen : qall.length = i
  nodup : (pall ++ qall).Nodup
  flags : ∀ g ∈ pall, w.heap[g]? = some (rowObj L) ∧ W.heap.size ≤ g
  qs : ∀ j, j < i → ∃ cur, w.heap[qall.getD j 0]? = some (.cells cur 52 (0, 0)) ∧ ∀ a, a < L → cur[a]? = some (sl L (pall.getD (j * L + a) 0))
  rows : w.ownsRow W.heap.size 52 1 vr k ((pall.drop (i * L)).map (sl L))
  made : w.ownsRow W.heap.size 53 1 vm i ms
  ms : ∀ j, j < i → ∃ rc, ms[j]? = some (.slice (some ⟨qall.getD j 0, 0, none⟩) L rc)
  offr : ∀ g ∈ pall ++ qall, vr.ownBlock ≠ some g
  offm : ∀ g ∈ pall ++ qall, vm.ownBlock ≠ some g
  ap : ∀ g, vr.ownBlock = some g → vm.ownBlock ≠ some g
  below : Below W.heap.size W w
theorem Mk8.lt {W w : World} {L i k : Nat} {pall qall : List Nat} {vr vm : Value} {ms : List Value} (h : Mk8 W w L i k pall qall vr vm ms) : ∀ g ∈ pall ++ qall, g < w.heap.size := fun g hg => by
  rcases List.mem_append.1 hg with hg | hg
  · have := (h.flags g hg).1
    rcases Nat.lt_or_ge g w.heap.size with h' | h'
    · exact h'
    · rw [Array.getElem?_eq_none h'] at this; cases this
  · obtain ⟨j, hj, rfl⟩ := List.mem_iff_getElem.1 hg
    obtain ⟨cur, hc, _⟩ := h.qs j (by have := h.qlen; omega)
    rw [show qall.getD j 0 = qall[j] by simp [hj]] at hc
    rcases Nat.lt_or_ge qall[j] w.heap.size with h' | h'
    · exact h'
    · rw [Array.getElem?_eq_none h'] at hc; cases hc
/-- What stands, stands. -/
theorem Mk8.keep {W w w' : World} {L i k : Nat} {pall qall : List Nat} {vr vm : Value} {ms : List Value} (h : Mk8 W w L i k pall qall vr vm ms) (hb : Below w.heap.size w w') : Mk8 W w' L i k pall qall vr vm ms :=
  ⟨h.plen, h.qlen, h.nodup, fun g hg => ⟨(hb.block g (h.lt g (List.mem_append_left _ hg))).trans (h.flags g hg).1, (h.flags g hg).2⟩,
   fun j hj => by
    obtain ⟨cur, h1, h2⟩ := h.qs j hj
    exact ⟨cur, (hb.block _ (h.lt _ (List.mem_append_right _ (by have := h.qlen; simp [show j < qall.length by omega])))).trans h1, h2⟩,
   owns_below h.rows hb, owns_below h.made hb, h.ms, h.offr, h.offm, h.ap, h.below.trans (hb.mono h.below.size)⟩
/-- One row of flags more. -/
theorem Mk8.row {W w w' : World} {L i k g' n cap : Nat} {pall qall : List Nat} {vr vm : Value} {ms : List Value} {o : Obj} (h : Mk8 W w L i k pall qall vr vm ms)
    (ho : w'.ownsRow W.heap.size 52 1 (.slice (some ⟨g', 0, none⟩) n cap) n ((pall.drop (i * L)).map (sl L) ++ [sl L w.heap.size])) (hn : n = k + 1)
    (hg : (((w.alloc (.cells (madeCells #[Value.bool false] L) 4)).alloc o)).grownBy w' vr.ownBlock) (hat : vr.ownBlock = some g' ∨ g' = w.heap.size + 1 + 1) :
    Mk8 W w' L i (k + 1) (pall ++ [w.heap.size]) qall (.slice (some ⟨g', 0, none⟩) n cap) vm ms := by
  have hlt := h.lt
  have hsz := hg.size
  have hs2 : ((w.alloc (.cells (madeCells #[Value.bool false] L) 4)).alloc o).heap.size = w.heap.size + 2 := by simp
  have hblk : ∀ g, g < w.heap.size → vr.ownBlock ≠ some g → w'.heap[g]? = w.heap[g]? := fun g h1 h2 => by
    rw [hg.block g (by omega) (fun e => h2 e.symm), Below.heap_alloc _ _ _ (by simp; omega), Below.heap_alloc _ _ _ h1]
  have hnew : w'.heap[w.heap.size]? = some (rowObj L) := by
    rw [hg.block w.heap.size (by omega) (fun e => by have := (h.rows.lt _ e.symm).2; omega), Below.heap_alloc _ _ _ (by simp)]
    exact heap_alloc_new _ _
  have hbs := h.below.size
  refine ⟨by simp [h.plen]; omega, h.qlen, ?_, fun g hg' => ?_, fun j hj => ?_, ?_, owns_block h.made fun g hgb hgo => ?_, h.ms, fun g hg' e => ?_, fun g hg' e => ?_, fun g hg' e => ?_, ?_⟩
  · have h1 := h.nodup
    rw [List.append_assoc, List.nodup_append] at *
    refine ⟨h1.1, ?_, fun a ha b hb => ?_⟩
    · simp only [List.singleton_append, List.nodup_cons]
      exact ⟨fun hm => by have := hlt _ (List.mem_append_right _ hm); omega, h1.2.1⟩
    · rcases List.mem_cons.1 (by simpa using hb : b ∈ w.heap.size :: qall) with rfl | hb
      · have := hlt a (List.mem_append_left _ ha); omega
      · exact h1.2.2 a ha b hb
  · rcases List.mem_append.1 hg' with hg' | hg'
    · exact ⟨(hblk g (hlt g (List.mem_append_left _ hg')) (h.offr g (List.mem_append_left _ hg'))).trans (h.flags g hg').1, (h.flags g hg').2⟩
    · obtain rfl : g = w.heap.size := by simpa using hg'
      exact ⟨hnew, hbs⟩
  · obtain ⟨cur, h1, h2⟩ := h.qs j hj
    have hm : qall.getD j 0 ∈ pall ++ qall := List.mem_append_right _ (by have := h.qlen; simp [show j < qall.length by omega])
    refine ⟨cur, (hblk _ (hlt _ hm) (h.offr _ hm)).trans h1, fun a ha => ?_⟩
    rw [h2 a ha]
    have hjl : j * L + a < pall.length := by
      rw [h.plen]
      have := Nat.mul_le_mul_right L (show j + 1 ≤ i by omega)
      rw [Nat.add_mul] at this
      omega
    simp [List.getElem?_append_left hjl]
  · rw [List.drop_append_of_le_length (by rw [h.plen]; omega), List.map_append, ← hn]
    exact ho
  · exact hblk g (h.made.lt g hgo).2 (fun e => h.ap g e hgo)
  · simp only [Value.ownBlock, Option.some.injEq] at e
    subst e
    rcases List.mem_append.1 hg' with hg' | hg'
    · rcases List.mem_append.1 hg' with hg' | hg'
      · rcases hat with h1 | h1
        · exact h.offr g' (List.mem_append_left _ hg') h1
        · have := hlt g' (List.mem_append_left _ hg'); omega
      · have : g' = w.heap.size := by simpa using hg'
        rcases hat with h1 | h1
        · have := (h.rows.lt g' h1).2; omega
        · omega
    · rcases hat with h1 | h1
      · exact h.offr g' (List.mem_append_right _ hg') h1
      · have := hlt g' (List.mem_append_right _ hg'); omega
  · have hvm := (h.made.lt g e).2
    rcases List.mem_append.1 hg' with hg' | hg'
    · rcases List.mem_append.1 hg' with hg' | hg'
      · exact h.offm g (List.mem_append_left _ hg') e
      · have : g = w.heap.size := by simpa using hg'
        omega
    · exact h.offm g (List.mem_append_right _ hg') e
  · simp only [Value.ownBlock, Option.some.injEq] at hg'
    subst hg'
    have hvm := (h.made.lt g' e).2
    rcases hat with h1 | h1
    · exact h.ap g' h1 e
    · omega
  · exact ((h.below.alloc hbs _).alloc (by simp; omega) o).grown hg (by omega) (fun k hk => (h.rows.lt k hk).1)
/-- The rows handed on. -/
theorem Mk8.next {W w w' : World} {L i g' q rc n cap : Nat} {pall qall : List Nat} {vm : Value} {ms : List Value} {o : Obj} (h : Mk8 W w L i L pall qall (.slice (some ⟨q, 0, none⟩) L rc) vm ms)
    (ho : w'.ownsRow W.heap.size 53 1 (.slice (some ⟨g', 0, none⟩) n cap) n (ms ++ [.slice (some ⟨q, 0, none⟩) L rc])) (hn : n = i + 1)
    (hg : (w.alloc o).grownBy w' vm.ownBlock) (hat : vm.ownBlock = some g' ∨ g' = w.heap.size + 1) :
    Mk8 W w' L (i + 1) 0 pall (qall ++ [q]) (.slice none 0 0) (.slice (some ⟨g', 0, none⟩) n cap) (ms ++ [.slice (some ⟨q, 0, none⟩) L rc]) := by
  have hlt := h.lt
  have hsz := hg.size
  have hs2 : (w.alloc o).heap.size = w.heap.size + 1 := by simp
  have hblk : ∀ g, g < w.heap.size → vm.ownBlock ≠ some g → w'.heap[g]? = w.heap[g]? := fun g h1 h2 => by
    rw [hg.block g (by omega) (fun e => h2 e.symm), Below.heap_alloc _ _ _ h1]
  have hbs := h.below.size
  have hq := h.rows.lt q rfl
  have hqm : vm.ownBlock ≠ some q := h.ap q rfl
  have hqn : q ∉ pall ++ qall := fun hm => h.offr q hm rfl
  have hml : ms.length = i := by have := h.made.1; omega
  have hql := h.qlen
  refine ⟨by rw [h.plen, Nat.add_mul]; omega, by simp [hql], ?_, fun g hg' => ?_, fun j hj => ?_, ?_, ?_, fun j hj => ?_, fun g _ e => (by cases e), fun g hg' e => ?_, fun g e => (by cases e), ?_⟩
  · rw [← List.append_assoc, List.nodup_append]
    exact ⟨h.nodup, by simp, fun a ha b hb e => by
      have e2 : b = q := by simpa using hb
      rw [e, e2] at ha
      exact hqn ha⟩
  · have hm := List.mem_append_left qall hg'
    exact ⟨(hblk g (hlt g hm) (h.offm g hm)).trans (h.flags g hg').1, (h.flags g hg').2⟩
  · by_cases hji : j < i
    · obtain ⟨cur, h1, h2⟩ := h.qs j hji
      have hm : qall.getD j 0 ∈ pall ++ qall := List.mem_append_right _ (by simp [show j < qall.length by omega])
      refine ⟨cur, ?_, h2⟩
      rw [show (qall ++ [q]).getD j 0 = qall.getD j 0 by simp [List.getElem?_append_left (show j < qall.length by omega)]]
      exact (hblk _ (hlt _ hm) (h.offm _ hm)).trans h1
    · obtain rfl : j = i := by omega
      rw [show (qall ++ [q]).getD j 0 = q by rw [← hql]; simp]
      rcases h.rows.2 with ⟨h', _⟩ | ⟨g0, cap0, cur, h', _, hcur, _, _, _, ht⟩
      · cases h'
      · simp only [Value.slice.injEq, Option.some.injEq, Addr.mk.injEq, and_true, true_and] at h'
        obtain ⟨rfl, rfl⟩ := h'
        refine ⟨cur, (hblk _ hq.2 hqm).trans hcur, fun a ha => ?_⟩
        have h3 : (cur.toList.take (L * 1))[a]? = ((pall.drop (j * L)).map (sl L))[a]? := by rw [ht]
        rw [List.getElem?_take, if_pos (by omega), List.getElem?_map, List.getElem?_drop] at h3
        have hpl : j * L + a < pall.length := by rw [h.plen]; omega
        rw [List.getElem?_eq_getElem hpl] at h3
        simp only [Array.getElem?_toList, Option.map_some] at h3
        rw [h3]
        simp [hpl]
  · have : pall.drop ((i + 1) * L) = [] := List.drop_eq_nil_of_le (by rw [h.plen, Nat.add_mul]; omega)
    rw [this]
    exact World.ownsRow_nil _ _ _ _
  · rw [← hn]; exact ho
  · by_cases hji : j < i
    · obtain ⟨rc', h1⟩ := h.ms j hji
      refine ⟨rc', ?_⟩
      rw [List.getElem?_append_left (by omega), h1, show (qall ++ [q]).getD j 0 = qall.getD j 0 by simp [List.getElem?_append_left (show j < qall.length by omega)]]
    · obtain rfl : j = i := by omega
      refine ⟨rc, ?_⟩
      rw [List.getElem?_append_right (by omega), hml, show (qall ++ [q]).getD j 0 = q by rw [← hql]; simp]
      simp
  · simp only [Value.ownBlock, Option.some.injEq] at e
    subst e
    rw [← List.append_assoc] at hg'
    rcases List.mem_append.1 hg' with hg' | hg'
    · rcases hat with h1 | h1
      · exact h.offm g' hg' h1
      · have := hlt g' hg'; omega
    · have e2 : g' = q := by simpa using hg'
      rcases hat with h1 | h1
      · exact hqm (e2 ▸ h1)
      · omega
  · exact (h.below.alloc hbs o).grown hg (by omega) (fun k hk => (h.made.lt k hk).1)
end Go.Proofs.YtfdjnofkoegbdaaDoor
