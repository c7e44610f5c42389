/- slices.IndexFunc, slices.DeleteFunc at [][4]int, whatever the function that writes nothing that was there. No conditions. -/
import Derived.Test.YtebkgkcfcenkgaaDoorPw1
import Derived.Test.YtebkgkcfcenkgaaDoorCut4
namespace Go.Proofs.YtebkgkcfcenkgaaDoor
open Go.RowKit Go.Mine Go.Mine.Pw

theorem four_parts {x : List Int} (h : x.length = 4) : ∃ a b c d, x = [a, b, c, d] := by
  match x, h with
  | [a, b, c, d], _ => exact ⟨a, b, c, d, rfl⟩
/-- The function value gives p, whatever becomes of block blk; what was there stays. -/
def GivesF (g : Nat) (lb : Array Value) (w : World) (blk : Nat) (p : List Int → Bool) (xs : List (List Int)) : Prop :=
  ∀ w', w.grownBy w' (some blk) → ∀ x ∈ xs, Calls Tryd.prog g (#[fourV x] ++ lb) w' fun e w'' => e = .returned (.bool (p x)) ∧ Below w'.heap.size w' w''

set_option maxHeartbeats 600000 in
theorem idxF_any (es : List (List Int)) (ao : Option Addr) (c : Nat) (w : World) (hx : FoursAt w ao es) (h4 : ∀ r ∈ es, r.length = 4) (hl : es.length ≤ maxLen) (g : Nat) (lb : Array Value) (blk : Nat) (p : List Int → Bool)
    (hrun : ∀ v w, Sem.run Tryd.prog (callFunc g (#[v] ++ lb)) w = .ok (.enter g (#[v] ++ lb)) w) (hp : GivesF g lb w blk p es) :
    Calls Tryd.prog 29 #[.slice ao es.length c, .func (.func g) #[] lb] w fun e w' => (∃ z, e = .returned (.int .i64 z) ∧ ((z = -1 ∧ ∀ x ∈ es, p x = false) ∨ (∃ k : Nat, z = k ∧ k < es.length ∧ p (es.getD k []) = true ∧ ∀ j, j < k → p (es.getD j []) = false))) ∧ Below w.heap.size w w' := by
  unfold maxLen at hl
  have HX := Lib.hid hx; clear hx
  have HP := Lib.hid hp; clear hp
  have H4 := Lib.hid h4; clear h4
  go_enter Tryd.func29, Tryd.ntmps29
  go_wp2_with fail
  go_loopw [8] (fun i wr => ∃ k : Nat, i = .int .i64 k ∧ k ≤ es.length ∧ RowKit.Hid (∀ j, j < k → p (es.getD j []) = false) ∧ RowKit.Hid (Below w.heap.size w wr)) (fun i _ => es.length - (intOf i).toNat)
  case atStart => exact ⟨0, rfl, by omega, Lib.hid (fun j hj => by omega), Lib.hid (Below.refl _ _)⟩
  case round =>
    obtain ⟨k, rfl, hk, hall, hb⟩ := hrel
    by_cases hlt : k < es.length
    · obtain ⟨b, o, rfl, hc⟩ := HX.out.below (Nat.le_refl _) hb.out k hlt
      have hmem : es.getD k [] ∈ es := by simp [hlt]
      obtain ⟨z, hz⟩ : ∃ z, z = es.getD k [] := ⟨_, rfl⟩
      obtain ⟨v, hv⟩ : ∃ v, v = p z := ⟨_, rfl⟩
      have HPZ := Lib.hid (HP.out wr (below_grown hb.out) z (by rw [hz]; exact hmem))
      rw [← hz] at hc
      rw [← hv] at HPZ
      obtain ⟨z1, z2, z3, z4, hz4⟩ := four_parts (H4.out z (by rw [hz]; exact hmem))
      have HZ := Lib.hid hz
      have HV := Lib.hid hv
      rw [hz4] at hc HPZ
      have hc1 := hc 0 (by omega)
      have hc2 := hc 1 (by omega)
      have hc3 := hc 2 (by omega)
      have hc4 := hc 3 (by omega)
      simp only [fourV, List.getD_cons_zero, List.getD_cons_succ, Nat.add_zero] at hc1 hc2 hc3 hc4 HPZ
      have HB := Lib.hid hb.out
      clear hz hz4 hv hmem hb hc
      go_wp2_with fail
      refine HPZ.out.mono ?_
      clear HPZ
      rintro e w' ⟨rfl, hb'⟩
      have HB' := Lib.hid (HB.out.trans (hb'.mono HB.out.size))
      clear hb'
      cases v
      · go_wp2_with fail
        go_roundw
        case rel =>
          refine ⟨k + 1, by go_num, by omega, Lib.hid (fun j hj => ?_), HB'⟩
          by_cases e : j = k
          · subst e; rw [← HZ.out, ← HV.out]
          · exact hall.out j (by omega)
        case measure => simp [intOf]; omega
      · go_wp2_with fail
        go_ret
        exact ⟨⟨_, rfl, .inr ⟨k, rfl, hlt, by rw [← HZ.out, ← HV.out], hall.out⟩⟩, HB'.out⟩
    · have hke : k = es.length := by omega
      subst hke
      go_wp2_with fail
      go_ret
      refine ⟨⟨_, rfl, .inl ⟨rfl, fun x hx => ?_⟩⟩, hb.out⟩
      obtain ⟨j, hj, rfl⟩ := List.mem_iff_getElem.1 hx
      have := hall.out j hj
      simpa [hj] using this

/-- How the row stands while it is gone through. -/
structure DelInv (p : List Int → Bool) (es cur : List (List Int)) (i j : Nat) : Prop where
  len : cur.length = es.length
  lt : i < j
  le : j ≤ es.length
  head : cur.take i = (es.take j).filter fun x => !p x
  tail : cur.drop j = es.drop j
  mem : ∀ r ∈ cur, r ∈ es
theorem DelInv.keep {p : List Int → Bool} {es cur : List (List Int)} {i j : Nat} (h : DelInv p es cur i j) (hj : j < es.length) (hp : p (es.getD j []) = false) : DelInv p es (cur.set i (es.getD j [])) (i + 1) (j + 1) := by
  have hic : i < cur.length := by rw [h.len]; have := h.lt; omega
  refine ⟨by rw [List.length_set]; exact h.len, by have := h.lt; omega, hj, ?_, ?_, fun r hr => ?_⟩
  · rw [List.take_succ_eq_append_getElem (by simpa using hic), List.take_set_of_le (Nat.le_refl _), h.head, List.take_succ_eq_append_getElem hj, List.filter_append]
    have e : es[j] = es.getD j [] := by simp [hj]
    rw [List.getElem_set_self, e]
    simp only [List.filter, hp, Bool.not_false]
  · rw [List.drop_set_of_lt (by have := h.lt; omega)]
    have := congrArg (List.drop 1) h.tail
    simpa [List.drop_drop] using this
  · rcases List.mem_or_eq_of_mem_set hr with hr | hr
    · exact h.mem r hr
    · rw [hr]; simp [hj]
theorem DelInv.drop {p : List Int → Bool} {es cur : List (List Int)} {i j : Nat} (h : DelInv p es cur i j) (hj : j < es.length) (hp : p (es.getD j []) = true) : DelInv p es cur i (j + 1) := by
  refine ⟨h.len, by have := h.lt; omega, hj, ?_, ?_, h.mem⟩
  · rw [h.head, List.take_succ_eq_append_getElem hj, List.filter_append]
    have e : es[j] = es.getD j [] := by simp [hj]
    rw [e]
    simp only [List.filter, hp, Bool.not_true, List.append_nil]
  · have := congrArg (List.drop 1) h.tail
    simpa [List.drop_drop] using this
theorem DelInv.at {p : List Int → Bool} {es cur : List (List Int)} {i j : Nat} (h : DelInv p es cur i j) : cur.getD j [] = es.getD j [] := by
  have h1 := congrArg List.head? h.tail
  rw [List.head?_drop, List.head?_drop] at h1
  simp only [List.getD, h1]
theorem fourZero (w : World) : (zeroValue 40).run Tryd.prog w = .ok (.agg #[.int .i64 0, .int .i64 0, .int .i64 0, .int .i64 0]) w := by kernel_rfl
set_option maxHeartbeats 2000000 in
theorem delF_any (es : List (List Int)) (gr cap : Nat) (w : World) (ho : w.ownsRow 0 40 4 (.slice (some ⟨gr, 0, none⟩) es.length cap) es.length (flat4 es)) (h4 : ∀ r ∈ es, r.length = 4) (hl : es.length ≤ maxLen) (g : Nat) (lb : Array Value) (p : List Int → Bool)
    (hrun : ∀ v w, Sem.run Tryd.prog (callFunc g (#[v] ++ lb)) w = .ok (.enter g (#[v] ++ lb)) w) (hp : GivesF g lb w gr p es) :
    Calls Tryd.prog 18 #[.slice (some ⟨gr, 0, none⟩) es.length cap, .func (.func g) #[] lb] w fun e w' =>
      e = .returned (.slice (some ⟨gr, 0, none⟩) (es.filter fun x => !p x).length cap) ∧ w'.ownsRow 0 40 4 (.slice (some ⟨gr, 0, none⟩) (es.filter fun x => !p x).length cap) (es.filter fun x => !p x).length (flat4 (es.filter fun x => !p x)) ∧ w.grownBy w' (some gr) := by
  have HI := Lib.hid (idxF_any es (some ⟨gr, 0, none⟩) cap w (FoursAt.of_owns h4 ho) h4 hl g lb gr p hrun hp)
  have HO := Lib.hid ho
  have HP := Lib.hid hp
  have H4 := Lib.hid h4
  have hcap := (own_cap2 ho)
  have hgl := (ho.lt gr rfl).2
  unfold maxLen at hl
  clear ho hp h4
  go_enter Tryd.func18, Tryd.ntmps18
  go_wp2_with fail
  refine HI.out.mono ?_
  clear HI
  rintro e w1 ⟨⟨z, rfl, hz⟩, hb1⟩
  rcases hz with ⟨rfl, hz⟩ | ⟨k, rfl, hk, hpk, hall⟩
  · have hf : (es.filter fun x => !p x) = es := List.filter_eq_self.2 (fun x hx => by rw [hz x hx]; rfl)
    have HF := Lib.hid hf
    have HO1 := Lib.hid (owns_below HO.out hb1)
    have HG := Lib.hid (below_grown (row := some gr) hb1)
    clear hz hf hb1
    go_wp2_with fail
    go_ret
    rw [HF.out]
    exact ⟨rfl, HO1.out, HG.out⟩
  have hne1 : ((k : Int) == -1) = false := beq_eq_false_iff_ne.2 (by omega)
  have HINV := Lib.hid (show DelInv p es es k (k + 1) from ⟨rfl, by omega, hk, by
    have e1 : (es.take k).filter (fun x => !p x) = es.take k := List.filter_eq_self.2 (fun x hx => by
      obtain ⟨j, hj, rfl⟩ := List.mem_iff_getElem.1 hx
      have hj' : j < k := by rw [List.length_take] at hj; omega
      have := hall j hj'
      rw [List.getElem_take]
      have e2 : es[j]'(by omega) = es.getD j [] := by simp [show j < es.length by omega]
      rw [e2, this]; rfl)
    rw [List.take_succ_eq_append_getElem hk, List.filter_append, e1]
    have e2 : es[k] = es.getD k [] := by simp [hk]
    rw [e2]
    simp only [List.filter, hpk, Bool.not_true, List.append_nil], rfl, fun _ h => h⟩)
  have HO1 := Lib.hid (owns_below HO.out hb1)
  have HG1 := Lib.hid (below_grown (row := some gr) hb1)
  clear hpk hall hb1 HO
  go_wp2_with fail
  go_loopw [5, 6] (fun iv jv wr => ∃ (i j : Nat) (cur : List (List Int)), iv = .int .i64 i ∧ jv = .int .i64 j ∧ i < j ∧ j ≤ es.length ∧ RowKit.Hid (DelInv p es cur i j) ∧ RowKit.Hid (wr.ownsRow 0 40 4 (.slice (some ⟨gr, 0, none⟩) es.length cap) es.length (flat4 cur)) ∧ RowKit.Hid (w.grownBy wr (some gr))) (fun _ jv _ => es.length - (intOf jv).toNat)
  case atStart => exact ⟨k, k + 1, es, rfl, by go_num, by omega, hk, HINV, HO1, HG1⟩
  clear HINV HO1 HG1
  case round =>
    obtain ⟨i, j, cur, rfl, rfl, hij, hj, hinv, ho, hg⟩ := hrel
    have hcl : cur.length = es.length := hinv.out.len
    by_cases hjl : j < es.length
    · have hat := hinv.out.at
      have HC4 := Lib.hid (show ∀ r ∈ cur, r.length = 4 from fun r hr => H4.out r (hinv.out.mem r hr))
      have hc1 := ho.out.cellAt (j * 4) (by omega)
      have hc2 := ho.out.cellAt (j * 4 + 1) (by omega)
      have hc3 := ho.out.cellAt (j * 4 + 2) (by omega)
      have hc4 := ho.out.cellAt (j * 4 + 3) (by omega)
      rw [show j * 4 = j * 4 + 0 from rfl, flat4_get cur HC4.out j 0 (by omega) (by omega), hat] at hc1
      rw [flat4_get cur HC4.out j 1 (by omega) (by omega), hat] at hc2
      rw [flat4_get cur HC4.out j 2 (by omega) (by omega), hat] at hc3
      rw [flat4_get cur HC4.out j 3 (by omega) (by omega), hat] at hc4
      have hmem : es.getD j [] ∈ es := by simp [hjl]
      have HK := Lib.hid (fun h => hinv.out.keep hjl h)
      have HD := Lib.hid (fun h => hinv.out.drop hjl h)
      obtain ⟨x, hx⟩ : ∃ x, x = es.getD j [] := ⟨_, rfl⟩
      rw [← hx] at hc1 hc2 hc3 hc4 hmem HK HD
      obtain ⟨x1, x2, x3, x4, hx4⟩ := four_parts (H4.out x hmem)
      subst hx4
      simp only [List.getD_cons_zero, List.getD_cons_succ, Nat.add_zero] at hc1 hc2 hc3 hc4
      have HC := Lib.hid (HP.out (wr.alloc (.cells #[.int .i64 x1, .int .i64 x2, .int .i64 x3, .int .i64 x4] 40)) (grown_trans hg.out (World.grownBy_alloc _ _ _)) [x1, x2, x3, x4] hmem)
      simp only [fourV, List.getD_cons_zero, List.getD_cons_succ] at HC
      have HO2 := Lib.hid (ho.out.alloc (.cells #[.int .i64 x1, .int .i64 x2, .int .i64 x3, .int .i64 x4] 40))
      have HG2 := Lib.hid (grown_trans hg.out (World.grownBy_alloc wr (.cells #[.int .i64 x1, .int .i64 x2, .int .i64 x3, .int .i64 x4] 40) (some gr)))
      have hnb : (wr.alloc (.cells #[.int .i64 x1, .int .i64 x2, .int .i64 x3, .int .i64 x4] 40)).heap[wr.heap.size]? = some (.cells #[.int .i64 x1, .int .i64 x2, .int .i64 x3, .int .i64 x4] 40 (0, 0)) := heap_alloc_new _ _
      have HNB := Lib.hid hnb
      have hjcap : j < cap := by omega
      clear hinv ho hg hat hmem hx hnb
      go_wp2_with fail
      refine HC.out.mono ?_
      clear HC
      rintro e w2 ⟨rfl, hb2⟩
      have hw2 : w2.heap[wr.heap.size]? = some (.cells #[.int .i64 x1, .int .i64 x2, .int .i64 x3, .int .i64 x4] 40 (0, 0)) := (hb2.block _ (by simp)).trans HNB.out
      have hn1 : w2.cell? ⟨wr.heap.size, 0, none⟩ = some (.int .i64 x1) := by rw [cell_of_row w2 _ 0 _ _ _ hw2]; rfl
      have hn2 : w2.cell? ⟨wr.heap.size, 1, none⟩ = some (.int .i64 x2) := by rw [cell_of_row w2 _ 1 _ _ _ hw2]; rfl
      have hn3 : w2.cell? ⟨wr.heap.size, 2, none⟩ = some (.int .i64 x3) := by rw [cell_of_row w2 _ 2 _ _ _ hw2]; rfl
      have hn4 : w2.cell? ⟨wr.heap.size, 3, none⟩ = some (.int .i64 x4) := by rw [cell_of_row w2 _ 3 _ _ _ hw2]; rfl
      have HO3 := Lib.hid (owns_below HO2.out hb2)
      have HG3 := Lib.hid (grown_trans HG2.out (below_grown hb2))
      clear hb2 hw2 HNB
      obtain ⟨b, hb⟩ : ∃ b, b = p [x1, x2, x3, x4] := ⟨_, rfl⟩
      rw [← hb] at HK HD ⊢
      have HB := Lib.hid hb
      clear hb
      cases b with
      | true =>
        have HD2 := Lib.hid (HD.out rfl)
        go_wp2_with fail
        go_roundw
        case rel => exact ⟨i, j + 1, cur, rfl, by go_num, by omega, by omega, HD2, HO3, HG3⟩
        case measure => simp [intOf]; omega
      | false =>
        have HK2 := Lib.hid (HK.out rfl)
        have hic0 := fun k (hk : k < 4) => (HO3.out.cellAt (i * 4 + k) (by omega)).trans (flat4_get cur HC4.out i k (by omega) hk)
        have hic1 := hic0 0 (by omega)
        have hic2 := hic0 1 (by omega)
        have hic3 := hic0 2 (by omega)
        have hic4 := hic0 3 (by omega)
        rw [Nat.add_zero] at hic1
        have hif1 := HO3.out.frozenAt (i * 4)
        have hif2 := HO3.out.frozenAt (i * 4 + 1)
        have hif3 := HO3.out.frozenAt (i * 4 + 2)
        have hif4 := HO3.out.frozenAt (i * 4 + 3)
        have hst := stored_cells [.int .i64 x1, .int .i64 x2, .int .i64 x3, .int .i64 x4] w2 _ (i * 4) HO3.out
        rw [show ([.int .i64 x1, .int .i64 x2, .int .i64 x3, .int .i64 x4] : List Value) = [x1, x2, x3, x4].map (Value.int .i64) from rfl, flat4_set cur i [x1, x2, x3, x4] HC4.out rfl] at hst
        clear hic0
        have HST := Lib.hid hst
        have hilt : i < es.length := by omega
        clear hst
        go_wp2_with fail
        go_roundw
        case rel => exact ⟨i + 1, j + 1, cur.set i [x1, x2, x3, x4], by go_num, by go_num, by omega, by omega, HK2, Lib.hid HST.out.1, Lib.hid (grown_trans HG3.out HST.out.2)⟩
        case measure => simp [intOf]; omega
    · obtain rfl : j = es.length := by omega
      have hfl : cur.take i = es.filter fun x => !p x := by rw [hinv.out.head, List.take_length]
      have hfn : (es.filter fun x => !p x).length = i := by rw [← hfl, List.length_take]; omega
      have hrc := fun ty => run_clear (P := Tryd.prog) wr 31 40 ty (.agg #[.int .i64 0, .int .i64 0, .int .i64 0, .int .i64 0]) Tryd.underlying31 fourZero (by intro u hu; simp [Value.cells] at hu; subst hu; rfl) gr (i * 4) (es.length - i) (cap - i) (by omega)
        (by
          intro t ht
          rw [ho.out.cellAt (i * 4 + t) (by simp [Value.cells] at ht; omega)]
          have hlen := flat4_len cur (fun r hr => H4.out r (hinv.out.mem r hr))
          simp [Value.cells] at ht
          simp
          omega)
        (by intro t ht; exact ho.out.frozenAt _)
      have hst := stored_cells (Builtin.zeroCells (Value.agg #[.int .i64 0, .int .i64 0, .int .i64 0, .int .i64 0]).cells (es.length - i)).toList wr _ (i * 4) ho.out
      obtain ⟨w9, hw9⟩ : ∃ w9, w9 = wr.setCells gr (i * 4) (Builtin.zeroCells (Value.agg #[.int .i64 0, .int .i64 0, .int .i64 0, .int .i64 0]).cells (es.length - i)).toList := ⟨_, rfl⟩
      rw [← hw9] at hrc hst
      have hcut := owns_cut (k := i) hst.1 (by omega)
      rw [putAt_take _ _ _ _ (Nat.le_refl _), flat4_take cur i (fun r hr => H4.out r (hinv.out.mem r hr)), hfl] at hcut
      have HCUT := Lib.hid hcut
      have HG9 := Lib.hid (grown_trans hg.out hst.2)
      have HFN := Lib.hid hfn
      have hicap : i < cap := by omega
      have hile : i ≤ cap := by omega
      clear hw9 hst hcut hg ho hinv hfl hfn
      go_wp2_with fail
      go_ret
      rw [HFN.out]
      exact ⟨rfl, HCUT.out, HG9.out⟩
theorem delF_nil (w : World) (g : Nat) (lb : Array Value) (p : List Int → Bool) (blk : Nat)
    (hrun : ∀ v w, Sem.run Tryd.prog (callFunc g (#[v] ++ lb)) w = .ok (.enter g (#[v] ++ lb)) w) (hp : GivesF g lb w blk p []) :
    Calls Tryd.prog 18 #[.slice none 0 0, .func (.func g) #[] lb] w fun e w' => e = .returned (.slice none 0 0) ∧ Below w.heap.size w w' := by
  have HI := Lib.hid (idxF_any [] none 0 w (FoursAt.nil _ _) (by simp) (by simp) g lb blk p hrun hp)
  clear hp
  go_enter Tryd.func18, Tryd.ntmps18
  go_wp2_with fail
  refine HI.out.mono ?_
  clear HI
  rintro e w1 ⟨⟨z, rfl, hz⟩, hb1⟩
  rcases hz with ⟨rfl, hz⟩ | ⟨k, rfl, hk, _⟩
  · clear hz
    go_wp2_with fail
    go_ret
    exact ⟨rfl, hb1⟩
  · simp at hk
end Go.Proofs.YtebkgkcfcenkgaaDoor
