/- slices.IndexFunc, ContainsFunc, DeleteFunc at []uint32, whatever the function that writes nothing that was there. No conditions. -/
import Derived.Test.YtbgcmemndaaopaaDoorRows
import Derived.Test.YtbgcmemndaaopaaDoorPutAt
import Derived.Test.YtbgcmemndaaopaaDoorInts
import Derived.Test.YtbgcmemndaaopaaDoorProg
namespace Go.Proofs.YtbgcmemndaaopaaDoor
open Go.RowKit Go.Mine

abbrev uV (x : Int) : Value := .int .u32 x
/-- The function value gives p, whatever becomes of block blk; what was there stays. -/
def GivesU (g : Nat) (lb : Array Value) (w : World) (blk : Option Nat) (p : Int → Bool) (xs : List Int) : Prop :=
  ∀ w', w.grownBy w' blk → ∀ x ∈ xs, Calls Tryd.prog g (#[.int .u32 x] ++ lb) w' fun e w'' => e = .returned (.bool (p x)) ∧ Below w'.heap.size w' w''
theorem below_grownU {w w' : World} {row : Option Nat} (h : Below w.heap.size w w') : w.grownBy w' row := ⟨h.os, h.tape, h.output, h.size, fun i hi _ => h.block i hi⟩

set_option maxHeartbeats 600000 in
theorem idxU_any (es : List Int) (ao : Option Addr) (c : Nat) (w : World) (hx : IntsAt .u32 w ao es) (hl : es.length ≤ maxLen) (g : Nat) (lb : Array Value) (blk : Option Nat) (p : Int → Bool)
    (hrun : ∀ v w, Sem.run Tryd.prog (callFunc g (#[v] ++ lb)) w = .ok (.enter g (#[v] ++ lb)) w) (hp : GivesU g lb w blk p es) :
    Calls Tryd.prog 30 #[.slice ao es.length c, .func (.func g) #[] lb] w fun e w' => (∃ z, e = .returned (.int .i64 z) ∧ ((z = -1 ∧ ∀ x ∈ es, p x = false) ∨ (∃ k : Nat, z = k ∧ k < es.length ∧ p (es.getD k 0) = true ∧ ∀ j, j < k → p (es.getD j 0) = false))) ∧ Below w.heap.size w w' := by
  unfold maxLen at hl
  have HX := Lib.hid hx; clear hx
  have HP := Lib.hid hp; clear hp
  go_enter Tryd.func30, Tryd.ntmps30
  go_wp2_with fail
  go_loopw [8] (fun i wr => ∃ k : Nat, i = .int .i64 k ∧ k ≤ es.length ∧ RowKit.Hid (∀ j, j < k → p (es.getD j 0) = false) ∧ RowKit.Hid (Below w.heap.size w wr)) (fun i _ => es.length - (intOf i).toNat)
  case atStart => exact ⟨0, rfl, by omega, Lib.hid (fun j hj => by omega), Lib.hid (Below.refl _ _)⟩
  case round =>
    obtain ⟨k, rfl, hk, hall, hb⟩ := hrel
    by_cases hlt : k < es.length
    · obtain ⟨b, o, rfl, hc1⟩ := HX.out.below (Nat.le_refl _) hb.out k hlt
      have hmem : es.getD k 0 ∈ es := by simp [hlt]
      obtain ⟨z, hz⟩ : ∃ z, z = es.getD k 0 := ⟨_, rfl⟩
      obtain ⟨v, hv⟩ : ∃ v, v = p z := ⟨_, rfl⟩
      have HPZ := Lib.hid (HP.out wr (below_grownU hb.out) z (by rw [hz]; exact hmem))
      rw [← hz] at hc1
      rw [← hv] at HPZ
      have HZ := Lib.hid hz
      have HV := Lib.hid hv
      have HB := Lib.hid hb.out
      clear hz hv hmem hb
      go_wp2_with fail
      refine HPZ.out.mono ?_
      clear HPZ
      rintro e w' ⟨rfl, hb'⟩
      have HB' := Lib.hid (HB.out.trans (hb'.mono HB.out.size))
      clear hb'
      cases v
      · go_wp2_with fail
        go_roundw
        case rel =>
          refine ⟨k + 1, by go_num, by omega, Lib.hid (fun j hj => ?_), HB'⟩
          by_cases e : j = k
          · subst e; rw [← HZ.out, ← HV.out]
          · exact hall.out j (by omega)
        case measure => simp [intOf]; omega
      · go_wp2_with fail
        go_ret
        exact ⟨⟨_, rfl, .inr ⟨k, rfl, hlt, by rw [← HZ.out, ← HV.out], hall.out⟩⟩, HB'.out⟩
    · have hke : k = es.length := by omega
      subst hke
      go_wp2_with fail
      go_ret
      refine ⟨⟨_, rfl, .inl ⟨rfl, fun x hx => ?_⟩⟩, hb.out⟩
      obtain ⟨j, hj, rfl⟩ := List.mem_iff_getElem.1 hx
      have := hall.out j hj
      simpa [hj] using this

theorem ctnU_any (es : List Int) (ao : Option Addr) (c : Nat) (w : World) (hx : IntsAt .u32 w ao es) (hl : es.length ≤ maxLen) (g : Nat) (lb : Array Value) (blk : Option Nat) (p : Int → Bool)
    (hrun : ∀ v w, Sem.run Tryd.prog (callFunc g (#[v] ++ lb)) w = .ok (.enter g (#[v] ++ lb)) w) (hp : GivesU g lb w blk p es) :
    Calls Tryd.prog 22 #[.slice ao es.length c, .func (.func g) #[] lb] w fun e w' => e = .returned (.bool (es.any p)) ∧ Below w.heap.size w w' := by
  have HI := Lib.hid (idxU_any es ao c w hx hl g lb blk p hrun hp)
  unfold maxLen at hl
  clear hx hp
  go_enter Tryd.func22, Tryd.ntmps22
  go_wp2_with fail
  refine HI.out.mono ?_
  clear HI
  rintro e w1 ⟨⟨z, rfl, hz⟩, hb1⟩
  have HB := Lib.hid hb1
  rcases hz with ⟨rfl, hz⟩ | ⟨k, rfl, hk, hpk, _⟩
  · have HE := Lib.hid (show es.any p = false from List.any_eq_false.2 fun x hx => by rw [hz x hx]; simp)
    clear hz hb1
    go_wp2_with fail
    go_ret
    rw [HE.out]
    exact ⟨rfl, HB.out⟩
  · have HE := Lib.hid (show es.any p = true from List.any_eq_true.2 ⟨es.getD k 0, by simp [hk], hpk⟩)
    clear hpk hb1
    go_wp2_with fail
    go_ret
    rw [HE.out]
    exact ⟨by simp, HB.out⟩

/-- How the row stands while it is gone through. -/
structure DelInv (p : Int → Bool) (es cur : List Int) (i j : Nat) : Prop where
  len : cur.length = es.length
  lt : i < j
  le : j ≤ es.length
  head : cur.take i = (es.take j).filter fun x => !p x
  tail : cur.drop j = es.drop j
theorem DelInv.keep {p : Int → Bool} {es cur : List Int} {i j : Nat} (h : DelInv p es cur i j) (hj : j < es.length) (hp : p (es.getD j 0) = false) : DelInv p es (cur.set i (es.getD j 0)) (i + 1) (j + 1) := by
  have hic : i < cur.length := by rw [h.len]; have := h.lt; omega
  refine ⟨by rw [List.length_set]; exact h.len, by have := h.lt; omega, hj, ?_, ?_⟩
  · rw [List.take_succ_eq_append_getElem (by simpa using hic), List.take_set_of_le (Nat.le_refl _), h.head, List.take_succ_eq_append_getElem hj, List.filter_append]
    have e : es[j] = es.getD j 0 := by simp [hj]
    rw [List.getElem_set_self, e]
    simp only [List.filter, hp, Bool.not_false]
  · rw [List.drop_set_of_lt (by have := h.lt; omega)]
    have := congrArg (List.drop 1) h.tail
    simpa [List.drop_drop] using this
theorem DelInv.drop {p : Int → Bool} {es cur : List Int} {i j : Nat} (h : DelInv p es cur i j) (hj : j < es.length) (hp : p (es.getD j 0) = true) : DelInv p es cur i (j + 1) := by
  refine ⟨h.len, by have := h.lt; omega, hj, ?_, ?_⟩
  · rw [h.head, List.take_succ_eq_append_getElem hj, List.filter_append]
    have e : es[j] = es.getD j 0 := by simp [hj]
    rw [e]
    simp only [List.filter, hp, Bool.not_true, List.append_nil]
  · have := congrArg (List.drop 1) h.tail
    simpa [List.drop_drop] using this
theorem DelInv.at {p : Int → Bool} {es cur : List Int} {i j : Nat} (h : DelInv p es cur i j) : cur.getD j 0 = es.getD j 0 := by
  have h1 := congrArg List.head? h.tail
  rw [List.head?_drop, List.head?_drop] at h1
  simp only [List.getD, h1]
theorem uZero (w : World) : (zeroValue 35).run Tryd.prog w = .ok (.int .u32 0) w := by kernel_rfl
theorem umap_get (cur : List Int) (j : Nat) (hj : j < cur.length) : (cur.map (Value.int .u32))[j]? = some (.int .u32 (cur.getD j 0)) := by simp [hj]
set_option maxHeartbeats 2000000 in
theorem delU_any (es : List Int) (base gr cap : Nat) (w : World) (ho : w.ownsRow base 35 1 (.slice (some ⟨gr, 0, none⟩) es.length cap) es.length (es.map (Value.int .u32))) (hl : es.length ≤ maxLen) (g : Nat) (lb : Array Value) (p : Int → Bool)
    (hrun : ∀ v w, Sem.run Tryd.prog (callFunc g (#[v] ++ lb)) w = .ok (.enter g (#[v] ++ lb)) w) (hp : GivesU g lb w (some gr) p es) :
    Calls Tryd.prog 20 #[.slice (some ⟨gr, 0, none⟩) es.length cap, .func (.func g) #[] lb] w fun e w' =>
      e = .returned (.slice (some ⟨gr, 0, none⟩) (es.filter fun x => !p x).length cap) ∧ w'.ownsRow base 35 1 (.slice (some ⟨gr, 0, none⟩) (es.filter fun x => !p x).length cap) (es.filter fun x => !p x).length ((es.filter fun x => !p x).map (Value.int .u32)) ∧ w.grownBy w' (some gr) := by
  have HI := Lib.hid (idxU_any es (some ⟨gr, 0, none⟩) cap w (IntsAt.of_owns ho) hl g lb (some gr) p hrun hp)
  have HO := Lib.hid ho
  have HP := Lib.hid hp
  have hcap : es.length ≤ cap := (own_cap2 ho)
  have hgl := (ho.lt gr rfl).2
  unfold maxLen at hl
  clear ho hp
  go_enter Tryd.func20, Tryd.ntmps20
  go_wp2_with fail
  refine HI.out.mono ?_
  clear HI
  rintro e w1 ⟨⟨z, rfl, hz⟩, hb1⟩
  rcases hz with ⟨rfl, hz⟩ | ⟨k, rfl, hk, hpk, hall⟩
  · have hf : (es.filter fun x => !p x) = es := List.filter_eq_self.2 (fun x hx => by rw [hz x hx]; rfl)
    have HF := Lib.hid hf
    have HO1 := Lib.hid (owns_below HO.out hb1)
    have HG := Lib.hid (below_grownU (row := some gr) hb1)
    clear hz hf hb1
    go_wp2_with fail
    go_ret
    rw [HF.out]
    exact ⟨rfl, HO1.out, HG.out⟩
  have hne1 : ((k : Int) == -1) = false := beq_eq_false_iff_ne.2 (by omega)
  have HINV := Lib.hid (show DelInv p es es k (k + 1) from ⟨rfl, by omega, hk, by
    have e1 : (es.take k).filter (fun x => !p x) = es.take k := List.filter_eq_self.2 (fun x hx => by
      obtain ⟨j, hj, rfl⟩ := List.mem_iff_getElem.1 hx
      have hj' : j < k := by rw [List.length_take] at hj; omega
      have := hall j hj'
      rw [List.getElem_take]
      have e2 : es[j]'(by omega) = es.getD j 0 := by simp [show j < es.length by omega]
      rw [e2, this]; rfl)
    rw [List.take_succ_eq_append_getElem hk, List.filter_append, e1]
    have e2 : es[k] = es.getD k 0 := by simp [hk]
    rw [e2]
    simp only [List.filter, hpk, Bool.not_true, List.append_nil], rfl⟩)
  have HO1 := Lib.hid (owns_below HO.out hb1)
  have HG1 := Lib.hid (below_grownU (row := some gr) hb1)
  clear hpk hall hb1 HO
  go_wp2_with fail
  go_loopw [5, 6] (fun iv jv wr => ∃ (i j : Nat) (cur : List Int), iv = .int .i64 i ∧ jv = .int .i64 j ∧ i < j ∧ j ≤ es.length ∧ RowKit.Hid (DelInv p es cur i j) ∧ RowKit.Hid (wr.ownsRow base 35 1 (.slice (some ⟨gr, 0, none⟩) es.length cap) es.length (cur.map (Value.int .u32))) ∧ RowKit.Hid (w.grownBy wr (some gr))) (fun _ jv _ => es.length - (intOf jv).toNat)
  case atStart => exact ⟨k, k + 1, es, rfl, by go_num, by omega, hk, HINV, HO1, HG1⟩
  clear HINV HO1 HG1
  case round =>
    obtain ⟨i, j, cur, rfl, rfl, hij, hj, hinv, ho, hg⟩ := hrel
    have hcl : cur.length = es.length := hinv.out.len
    by_cases hjl : j < es.length
    · have hat := hinv.out.at
      have hc1 := ho.out.cellAt j (by omega)
      rw [umap_get cur j (by omega), hat] at hc1
      have hmem : es.getD j 0 ∈ es := by simp [hjl]
      have HK := Lib.hid (fun h => hinv.out.keep hjl h)
      have HD := Lib.hid (fun h => hinv.out.drop hjl h)
      obtain ⟨x, hx⟩ : ∃ x, x = es.getD j 0 := ⟨_, rfl⟩
      rw [← hx] at hc1 hmem HK HD
      have HC := Lib.hid (HP.out wr hg.out x hmem)
      have HO2 := Lib.hid ho.out
      have HG2 := Lib.hid hg.out
      have hjcap : j < cap := by omega
      clear hinv ho hg hat hmem hx
      go_wp2_with fail
      refine HC.out.mono ?_
      clear HC
      rintro e w2 ⟨rfl, hb2⟩
      have HO3 := Lib.hid (owns_below HO2.out hb2)
      have HG3 := Lib.hid (grownBy_trans HG2.out (below_grownU hb2))
      clear hb2
      obtain ⟨b, hb⟩ : ∃ b, b = p x := ⟨_, rfl⟩
      rw [← hb] at HK HD ⊢
      have HB := Lib.hid hb
      clear hb
      cases b with
      | true =>
        have HD2 := Lib.hid (HD.out rfl)
        go_wp2_with fail
        go_roundw
        case rel => exact ⟨i, j + 1, cur, rfl, by go_num, by omega, by omega, HD2, HO3, HG3⟩
        case measure => simp [intOf]; omega
      | false =>
        have HK2 := Lib.hid (HK.out rfl)
        have hic1 := HO3.out.cellAt i (by omega)
        rw [umap_get cur i (by omega)] at hic1
        have hif1 := HO3.out.frozenAt i
        have hst := HO3.out.stored i (.int .u32 x)
        rw [show (cur.map (Value.int .u32)).set i (.int .u32 x) = (cur.set i x).map (Value.int .u32) by simp] at hst
        have HST := Lib.hid hst
        have hilt : i < es.length := by omega
        clear hst
        go_wp2_with fail
        go_roundw
        case rel => exact ⟨i + 1, j + 1, cur.set i x, by go_num, by go_num, by omega, by omega, HK2, Lib.hid HST.out.1, Lib.hid (grownBy_trans HG3.out HST.out.2)⟩
        case measure => simp [intOf]; omega
    · obtain rfl : j = es.length := by omega
      have hfl : cur.take i = es.filter fun x => !p x := by rw [hinv.out.head, List.take_length]
      have hfn : (es.filter fun x => !p x).length = i := by rw [← hfl, List.length_take]; omega
      have hrc := fun ty => run_clear (P := Tryd.prog) wr 22 35 ty (.int .u32 0) Tryd.underlying22 uZero (by intro u hu; simp [Value.cells] at hu; subst hu; rfl) gr i (es.length - i) (cap - i) (by omega)
        (by
          intro t ht
          rw [ho.out.cellAt (i + t) (by simp [Value.cells] at ht; omega)]
          simp [Value.cells] at ht
          simp
          omega)
        (by intro t ht; exact ho.out.frozenAt _)
      have hst := stored_cells (Builtin.zeroCells (Value.int .u32 0).cells (es.length - i)).toList wr _ i ho.out
      obtain ⟨w9, hw9⟩ : ∃ w9, w9 = wr.setCells gr i (Builtin.zeroCells (Value.int .u32 0).cells (es.length - i)).toList := ⟨_, rfl⟩
      rw [← hw9] at hrc hst
      have hcut := owns_cut (k := i) hst.1 (by omega)
      rw [Nat.mul_one, putAt_take _ _ _ _ (Nat.le_refl _), ← List.map_take, hfl] at hcut
      have HCUT := Lib.hid hcut
      have HG9 := Lib.hid (grownBy_trans hg.out hst.2)
      have HFN := Lib.hid hfn
      have hicap : i < cap := by omega
      have hile : i ≤ cap := by omega
      clear hw9 hst hcut hg ho hinv hfl hfn
      go_wp2_with fail
      go_ret
      rw [HFN.out]
      exact ⟨rfl, HCUT.out, HG9.out⟩
end Go.Proofs.YtbgcmemndaaopaaDoor
