/- slices' swapRangeCmpFunc, rotateCmpFunc, insertionSortCmpFunc at []int, on a row of the caller's own, whatever the comparison. No conditions beyond sizes. -/
import Derived.Test.YthfiecakmlpdiaaDoorRows
import Derived.Test.YthfiecakmlpdiaaDoorInts
import Derived.Test.YthfiecakmlpdiaaDoorMore
import Derived.Test.YthfiecakmlpdiaaDoorStabP
import Derived.Deep.QuietTactic
import Derived.BigQuiet
import Derived.BigRegion
import Derived.Shelf.Abstract
namespace Go.Proofs.YthfiecakmlpdiaaDoor
open Go.RowKit Go.Mine Go.Mine.Stab

theorem st_trans {a b c : World} {row : Option Nat} (h : a.grownBy b row) (k : b.grownBy c row) : a.grownBy c row :=
  ⟨k.os.trans h.os, k.tape.trans h.tape, k.output.trans h.output, Nat.le_trans h.size k.size, fun i hi hne => (k.block i (Nat.lt_of_lt_of_le hi h.size) hne).trans (h.block i hi hne)⟩
theorem st_refl (w : World) (row : Option Nat) : w.grownBy w row := ⟨rfl, rfl, rfl, Nat.le_refl _, fun _ _ _ => rfl⟩
theorem st_below {w w' : World} {row : Option Nat} (h : Below w.heap.size w w') : w.grownBy w' row := ⟨h.os, h.tape, h.output, h.size, fun i hi _ => h.block i hi⟩
theorem _root_.Go.World.grownBy.st_add {a b c : World} {row : Option Nat} (h : a.grownBy b row) (k : Below b.heap.size b c) : a.grownBy c row := st_trans h (st_below k)
theorem st_drew {w : World} {row : Option Nat} (n : Nat) : w.grownBy (w.drewN n) row := ⟨rfl, rfl, rfl, Nat.le_refl _, fun _ _ _ => rfl⟩
/-- The row's cells. -/
def rowC (c : Nat → Nat) (n : Nat) : List Value := (List.range n).map fun p => .int .i64 (c p : Nat)
theorem rowC_get (c : Nat → Nat) {n p : Nat} (h : p < n) : (rowC c n)[p]? = some (.int .i64 (c p : Nat)) := by simp [rowC, h]
theorem rowC_len (c : Nat → Nat) (n : Nat) : (rowC c n).length = n := by simp [rowC]
theorem rowC_set (c d : Nat → Nat) (n p v : Nat) (h : ∀ q, d q = if q = p then v else c q) : (rowC c n).set p (.int .i64 (v : Nat)) = rowC d n := by
  apply List.ext_getElem?
  intro q
  rw [List.getElem?_set]
  by_cases hq : q < n
  · rw [rowC_get d hq, h q]
    by_cases e : p = q
    · subst e; rw [if_pos rfl, rowC_len, if_pos hq, if_pos rfl]
    · rw [if_neg e, if_neg (fun h => e h.symm), rowC_get c hq]
  · have h1 : (rowC d n)[q]? = none := List.getElem?_eq_none (by rw [rowC_len]; omega)
    rw [h1]
    split
    · rw [rowC_len]; rw [if_neg (by omega)]
    · exact List.getElem?_eq_none (by rw [rowC_len]; omega)
/-- The row lies there. -/
def Lies (w : World) (g n cap : Nat) (c : Nat → Nat) : Prop := w.ownsRow 0 3 1 (.slice (some ⟨g, 0, none⟩) n cap) n (rowC c n)
theorem Lies.cell {w : World} {g n cap : Nat} {c : Nat → Nat} (h : Lies w g n cap c) {p : Nat} (hp : p < n) : w.cell? ⟨g, p, none⟩ = some (.int .i64 (c p : Nat)) := by
  have := World.ownsRow.cellAt h p (by omega)
  rw [this]; exact rowC_get c hp
theorem Lies.frozen {w : World} {g n cap : Nat} {c : Nat → Nat} (h : Lies w g n cap c) (p : Nat) : w.frozen? ⟨g, p, none⟩ = false := World.ownsRow.frozenAt h p
theorem Lies.lt {w : World} {g n cap : Nat} {c : Nat → Nat} (h : Lies w g n cap c) : g < w.heap.size := (World.ownsRow.lt h g rfl).2
theorem Lies.drew {w : World} {g n cap : Nat} {c : Nat → Nat} (h : Lies w g n cap c) (q : Nat) : Lies (w.drewN q) g n cap c := h
theorem Lies.below {w w' : World} {g n cap : Nat} {c : Nat → Nat} (h : Lies w g n cap c) (hb : Below w.heap.size w w') : Lies w' g n cap c := owns_below h hb
/-- Two places changed. -/
theorem Lies.sw {w : World} {g n cap : Nat} {c : Nat → Nat} (h : Lies w g n cap c) (i j : Nat) (hij : i ≠ j) : Lies ((w.setCell ⟨g, i, none⟩ (.int .i64 (c j : Nat))).setCell ⟨g, j, none⟩ (.int .i64 (c i : Nat))) g n cap (Stab.sw c i j) ∧ w.grownBy ((w.setCell ⟨g, i, none⟩ (.int .i64 (c j : Nat))).setCell ⟨g, j, none⟩ (.int .i64 (c i : Nat))) (some g) := by
  have h1 := World.ownsRow.stored h i (.int .i64 (c j : Nat))
  have h2 := World.ownsRow.stored h1.1 j (.int .i64 (c i : Nat))
  refine ⟨?_, st_trans h1.2 h2.2⟩
  have e1 := rowC_set c (fun q => if q = i then c j else c q) n i (c j) (fun q => rfl)
  have e2 := rowC_set (fun q => if q = i then c j else c q) (Stab.sw c i j) n j (c i) (fun q => by
    unfold Stab.sw
    by_cases k1 : q = i
    · rw [if_pos k1, if_neg (by omega)]; simp [k1]
    · rw [if_neg k1]; simp [k1])
  have := h2.1
  rw [e1, e2] at this
  exact this

set_option maxHeartbeats 1000000 in
set_option maxRecDepth 100000 in
theorem swapRange_any (x y k n g cap : Nat) (c : Nat → Nat) (fv : Value) (w : World) (hl : Lies w g n cap c) (hn : n ≤ 100) (hxy : x + k ≤ y) (hy : y + k ≤ n) :
    Calls Tryd.prog 33 #[.slice (some ⟨g, 0, none⟩) n cap, .int .i64 x, .int .i64 y, .int .i64 k, fv] w fun e w' => e = .returned (.tuple #[]) ∧ Lies w' g n cap (swr x y k c) ∧ w.grownBy w' (some g) := by
  have HL := Lib.hid hl
  clear hl
  go_enter Tryd.func33, Tryd.ntmps33
  go_wp2_with fail
  go_loopw [10] (fun iv wr => ∃ i : Nat, iv = .int .i64 i ∧ i ≤ k ∧ RowKit.Hid (Lies wr g n cap (swr x y i c)) ∧ RowKit.Hid (w.grownBy wr (some g))) (fun iv _ => k - (intOf iv).toNat)
  case atStart => exact ⟨0, rfl, by omega, Lib.hid (by rw [swr_zero]; exact HL.out), Lib.hid (st_refl _ _)⟩
  case round =>
    obtain ⟨i, rfl, hi, hl, hg⟩ := hrel
    by_cases hik : i < k
    · obtain ⟨p, hp⟩ : ∃ p, p = x + i := ⟨_, rfl⟩
      obtain ⟨q, hq⟩ : ∃ q, q = y + i := ⟨_, rfl⟩
      have hpi : (x : Int) + (i : Int) = (p : Int) := by omega
      have hqi : (y : Int) + (i : Int) = (q : Int) := by omega
      have hpw : IntKind.i64.wrap (p : Int) = p := IntWalk.i64_in _ (by omega)
      have hqw : IntKind.i64.wrap (q : Int) = q := IntWalk.i64_in _ (by omega)
      have hpn : p < n := by omega
      have hqn : q < n := by omega
      have hpn2 : (p : Int) < (n : Int) := by omega
      have hqn2 : (q : Int) < (n : Int) := by omega
      have hp0 : (0 : Int) ≤ (p : Int) := by omega
      have hq0 : (0 : Int) ≤ (q : Int) := by omega
      have hne : ¬ p = q := by omega
      have hne2 : ¬ q = p := by omega
      have hcp := hl.out.cell hpn
      have hcq := hl.out.cell hqn
      have hfp := hl.out.frozen p
      have hfq := hl.out.frozen q
      obtain ⟨u, hu⟩ : ∃ u : Int, u = (swr x y i c p : Nat) := ⟨_, rfl⟩
      obtain ⟨v, hv⟩ : ∃ v : Int, v = (swr x y i c q : Nat) := ⟨_, rfl⟩
      have hsw := hl.out.sw p q (by omega)
      rw [← hu] at hcp hsw
      rw [← hv] at hcq hsw
      rw [hp, hq, swr_succ (by omega), ← hp, ← hq] at hsw
      obtain ⟨w3, hw3⟩ : ∃ w3, w3 = (wr.setCell ⟨g, p, none⟩ (.int .i64 v)).setCell ⟨g, q, none⟩ (.int .i64 u) := ⟨_, rfl⟩
      rw [← hw3] at hsw
      have HS := Lib.hid (And.intro hsw.1 (st_trans hg.out hsw.2))
      have HW3 := Lib.hid hw3
      clear hsw hu hv hl hg hw3 hp hq
      go_wp2_with fail
      go_region
      rw [← HW3.out]
      have HS2 := Lib.hid (show Lies w3.drew g n cap (swr x y (i + 1) c) ∧ w.grownBy w3.drew (some g) from ⟨HS.out.1.drew 1, st_trans HS.out.2 (st_drew 1)⟩)
      clear hpi hqi hpw hqw
      go_wp2_with fail
      go_roundw
      case rel => exact ⟨i + 1, by go_num, by omega, Lib.hid HS2.out.1, Lib.hid HS2.out.2⟩
      case measure => simp [intOf]; omega
    · obtain rfl : i = k := by omega
      have HS := Lib.hid (And.intro hl.out hg.out)
      clear hl hg
      go_wp2_with fail
      go_end0
      exact ⟨rfl, HS.out⟩

theorem sub_nat {i j : Nat} (h : j ≤ i) : ((i - j : Nat) : Int) = (i : Int) - (j : Int) := by omega
set_option maxHeartbeats 1000000 in
set_option maxRecDepth 100000 in
theorem rotate_any (a m b n g cap : Nat) (c : Nat → Nat) (fv : Value) (w : World) (hl : Lies w g n cap c) (hn : n ≤ 100) (ham : a < m) (hmb : m < b) (hb : b ≤ n) :
    Calls Tryd.prog 32 #[.slice (some ⟨g, 0, none⟩) n cap, .int .i64 a, .int .i64 m, .int .i64 b, fv] w fun e w' => e = .returned (.tuple #[]) ∧ Lies w' g n cap (rot m (m - a) (b - m) c) ∧ w.grownBy w' (some g) := by
  have HL := Lib.hid hl
  have h1 : (m : Int) - (a : Int) = ((m - a : Nat) : Int) := (sub_nat (by omega)).symm
  have h2 : (b : Int) - (m : Int) = ((b - m : Nat) : Int) := (sub_nat (by omega)).symm
  obtain ⟨R, hR⟩ : ∃ R, R = rot m (m - a) (b - m) c := ⟨_, rfl⟩
  rw [← hR]
  have HR := Lib.hid hR
  obtain ⟨i0, hi0⟩ : ∃ i0, i0 = m - a := ⟨_, rfl⟩
  obtain ⟨j0, hj0⟩ : ∃ j0, j0 = b - m := ⟨_, rfl⟩
  rw [← hi0] at h1 HR
  rw [← hj0] at h2 HR
  have hib : 1 ≤ i0 ∧ i0 ≤ m := by omega
  have hjb : 1 ≤ j0 ∧ m + j0 ≤ n := by omega
  clear hl hR hi0 hj0
  go_enter Tryd.func32, Tryd.ntmps32
  go_wp2_with fail
  go_loopw [10, 11] (fun iv jv wr => ∃ (i j : Nat) (d : Nat → Nat), iv = .int .i64 i ∧ jv = .int .i64 j ∧ 1 ≤ i ∧ i ≤ m ∧ 1 ≤ j ∧ m + j ≤ n ∧ RowKit.Hid (rot m i j d = R) ∧ RowKit.Hid (Lies wr g n cap d) ∧ RowKit.Hid (w.grownBy wr (some g))) (fun iv jv _ => (intOf iv).toNat + (intOf jv).toNat)
  case atStart => exact ⟨i0, j0, c, rfl, rfl, by omega, by omega, by omega, by omega, Lib.hid HR.out.symm, HL, Lib.hid (st_refl _ _)⟩
  clear HL HR h1 h2 hib hjb
  case round =>
    obtain ⟨i, j, d, rfl, rfl, hi1, him, hj1, hjm, hr, hl, hg⟩ := hrel
    have HG := Lib.hid hg.out
    by_cases hij : i = j
    · subst hij
      have hd : ((i : Int) != (i : Int)) = false := by simp
      have hmi : (m : Int) - (i : Int) = ((m - i : Nat) : Int) := (sub_nat him).symm
      have HS := Lib.hid (swapRange_any (m - i) m i n g cap d fv wr hl.out hn (by omega) hjm)
      have HE := Lib.hid ((rot_eq him d).symm.trans hr.out)
      clear hr hl hg
      go_wp2_with fail
      go_fit HS.out
      clear HS
      rintro e w3 ⟨rfl, hl3, hg3⟩
      rw [HE.out] at hl3
      have HF := Lib.hid (And.intro hl3 (st_trans HG.out hg3))
      clear hl3 hg3
      go_wp2_with fail
      go_end0
      exact ⟨rfl, HF.out⟩
    · have hd : ((i : Int) != (j : Int)) = true := by rw [bne_iff_ne]; omega
      have hmi : (m : Int) - (i : Int) = ((m - i : Nat) : Int) := (sub_nat him).symm
      by_cases hgt : j < i
      · have hd2 : decide ((j : Int) < (i : Int)) = true := by simp; omega
        have HS := Lib.hid (swapRange_any (m - i) m j n g cap d fv wr hl.out hn (by omega) hjm)
        have HE := Lib.hid ((rot_gt hgt him d).symm.trans hr.out)
        clear hr hl hg
        go_wp2_with fail
        go_fit HS.out
        clear HS
        rintro e w3 ⟨rfl, hl3, hg3⟩
        have HL3 := Lib.hid hl3
        have HG3 := Lib.hid (st_trans HG.out hg3)
        clear hl3 hg3 hmi
        go_wp2_with fail
        go_roundw
        case rel => exact ⟨i - j, j, _, by rw [sub_nat (by omega)], rfl, by omega, by omega, by omega, by omega, HE, HL3, HG3⟩
        case measure => simp [intOf]; omega
      · have hd2 : decide ((j : Int) < (i : Int)) = false := by simp; omega
        have hmj : (m : Int) + (j : Int) - (i : Int) = ((m + j - i : Nat) : Int) := by omega
        have HS := Lib.hid (swapRange_any (m - i) (m + j - i) i n g cap d fv wr hl.out hn (by omega) (by omega))
        have HE := Lib.hid ((rot_lt (by omega) him d).symm.trans hr.out)
        clear hr hl hg
        go_wp2_with fail
        go_fit HS.out
        clear HS
        rintro e w3 ⟨rfl, hl3, hg3⟩
        have HL3 := Lib.hid hl3
        have HG3 := Lib.hid (st_trans HG.out hg3)
        clear hl3 hg3 hmi hmj
        go_wp2_with fail
        go_roundw
        case rel => exact ⟨i, j - i, _, rfl, by rw [sub_nat (by omega)], by omega, by omega, by omega, by omega, HE, HL3, HG3⟩
        case measure => simp [intOf]; omega

/-- The comparison, as it is asked: a later one of the first against an earlier one. -/
def GivesC (L : Nat → Nat → Prop) (gf : Nat) (lb : Array Value) (w : World) (g n : Nat) : Prop :=
  ∀ w', w.grownBy w' (some g) → ∀ y x : Nat, x < y → y < n → Calls Tryd.prog gf (#[.int .i64 y, .int .i64 x] ++ lb) w' fun e w'' => (∃ z : Int, e = .returned (.int .i64 z) ∧ (z < 0 ↔ L y x)) ∧ Below w'.heap.size w' w''
theorem GivesC.step {L : Nat → Nat → Prop} {gf : Nat} {lb : Array Value} {w w' : World} {g n : Nat} (h : GivesC L gf lb w g n) (hg : w.grownBy w' (some g)) : GivesC L gf lb w' g n := fun w2 h2 => h w2 (st_trans hg h2)
/-- Values are those of the first n numbers, none twice. -/
def Vals (c : Nat → Nat) (n : Nat) : Prop := (∀ p, p < n → c p < n) ∧ ∀ p q, c p = c q → p = q
theorem Vals.mv {c d : Nat → Nat} {a b n : Nat} (h : Vals c n) (hm : Mv a b c d) (hb : b ≤ n) : Vals d n := by
  refine ⟨fun p hp => ?_, hm.inj h.2⟩
  by_cases hin : a ≤ p ∧ p < b
  · obtain ⟨q, h1, h2, h3⟩ := hm.from hin.1 hin.2
    rw [h3]; exact h.1 q (by omega)
  · rw [hm.out (by omega)]; exact h.1 p hp
set_option maxHeartbeats 2000000 in
set_option maxRecDepth 100000 in
theorem insertion_any (L : Nat → Nat → Prop) (hL : Ord L) (a b n g cap : Nat) (c : Nat → Nat) (gf : Nat) (lb : Array Value) (w : World) (hl : Lies w g n cap c) (hn : n ≤ 100) (hab : a ≤ b) (hb : b ≤ n) (hv : Vals c n) (hasc : Asc c a b)
    (hrun : ∀ v u w, Sem.run Tryd.prog (callFunc gf (#[v, u] ++ lb)) w = .ok (.enter gf (#[v, u] ++ lb)) w) (hc : GivesC L gf lb w g n) :
    Calls Tryd.prog 27 #[.slice (some ⟨g, 0, none⟩) n cap, .int .i64 a, .int .i64 b, .func (.func gf) #[] lb] w fun e w' => e = .returned (.tuple #[]) ∧ (∃ d, Lies w' g n cap d ∧ Mv a b c d ∧ SortedR L d a b) ∧ w.grownBy w' (some g) := by
  have HL := Lib.hid hl
  have HLO := Lib.hid hL
  have HV := Lib.hid hv
  have HA := Lib.hid hasc
  have HC := Lib.hid hc
  clear hl hL hv hasc hc
  go_enter Tryd.func27, Tryd.ntmps27
  go_wp2_with fail
  go_loopw [8] (fun iv wr => ∃ (i : Nat) (d : Nat → Nat), iv = .int .i64 i ∧ a + 1 ≤ i ∧ i ≤ n + 1 ∧ (i ≤ b ∨ i = a + 1) ∧ RowKit.Hid (Lies wr g n cap d ∧ Mv a b c d ∧ SortedR L d a i ∧ (∀ p, i ≤ p → d p = c p) ∧ (∀ p, a ≤ p → p < i → i < b → d p < c i)) ∧ RowKit.Hid (w.grownBy wr (some g))) (fun iv _ => b - (intOf iv).toNat)
  case atStart => exact ⟨a + 1, c, by go_num, by omega, by omega, .inr rfl, Lib.hid ⟨HL.out, Mv.refl _ _ _, fun p q h1 h2 h3 => by omega, fun _ _ => rfl, fun p h1 h2 h3 => HA.out p (a + 1) h1 (by omega) h3⟩, Lib.hid (st_refl _ _)⟩
  clear HL
  case round =>
    obtain ⟨i, d, rfl, hai, hin, hib2, hd, hg⟩ := hrel
    by_cases hib : i < b
    · obtain ⟨hl, hmv, hs, hrest, hless⟩ := hd.out
      have HMV := Lib.hid hmv
      have HREST := Lib.hid hrest
      have HINS := Lib.hid (Ins.start (L := L) hs (fun p h1 h2 => by rw [hrest i (Nat.le_refl _)]; exact hless p h1 h2 hib))
      have HLI := Lib.hid hl
      have HG := Lib.hid hg.out
      have HXI := Lib.hid (hrest i (Nat.le_refl _))
      clear hl hmv hs hrest hless hd hg
      go_wp2_with fail
      go_loopw [9] (fun jv wr => ∃ (j : Nat) (f : Nat → Nat), jv = .int .i64 j ∧ a ≤ j ∧ j ≤ i ∧ RowKit.Hid (Lies wr g n cap f ∧ Mv a (i + 1) d f ∧ Ins L f a j i (d i)) ∧ RowKit.Hid (w.grownBy wr (some g))) (fun jv _ => (intOf jv).toNat)
      case atStart => exact ⟨i, d, rfl, by omega, by omega, Lib.hid ⟨HLI.out, Mv.refl _ _ _, HINS.out⟩, HG⟩
      clear HINS HLI HG
      case round =>
        obtain ⟨j, f, rfl, haj, hji, hf, hg⟩ := hrel
        have HFL := Lib.hid hf.out.1
        have HFM := Lib.hid hf.out.2.1
        have HFI := Lib.hid hf.out.2.2
        have HG := Lib.hid hg.out
        have HVF := Lib.hid ((HV.out.mv HMV.out (by omega)).mv HFM.out (by omega))
        have HEND := Lib.hid (show ∀ w9, Lies w9 g n cap f → w.grownBy w9 (some g) → (j = a ∨ L (f (j - 1)) (d i)) → (Lies w9 g n cap f ∧ Mv a b c f ∧ SortedR L f a (i + 1) ∧ (∀ p, i + 1 ≤ p → f p = c p) ∧ (∀ p, a ≤ p → p < i + 1 → i + 1 < b → f p < c (i + 1))) ∧ w.grownBy w9 (some g) from fun w9 h9 hg9 hst => by
          refine ⟨⟨h9, HMV.out.trans (HFM.out.wide (Nat.le_refl _) (by omega)), HFI.out.done HLO.out haj hji hst, fun p hp => ?_, fun p h1 h2 h3 => ?_⟩, hg9⟩
          · rw [HFM.out.out (.inr hp)]; exact HREST.out p (by omega)
          · obtain ⟨q, q1, q2, q3⟩ := HFM.out.from h1 h2
            rw [q3]
            by_cases hq : q = i
            · rw [hq, HREST.out i (Nat.le_refl _)]; exact HA.out i (i + 1) (by omega) (by omega) h3
            · obtain ⟨r, r1, r2, r3⟩ := HMV.out.from (p := q) q1 (by omega)
              by_cases hr : r < i + 1
              · rw [r3]; exact HA.out r (i + 1) r1 (by omega) h3
              · exfalso
                have e := HREST.out r (by omega)
                rw [← e] at r3
                have := (HV.out.mv HMV.out (by omega)).2 _ _ r3
                omega)
        clear hf hg
        by_cases hja : j = a
        · subst hja
          have hd0 : decide ((j : Int) < (j : Int)) = false := by simp
          have HE := Lib.hid (fun q => HEND.out (wr.drewN q) (HFL.out.drew q) (st_trans HG.out (st_drew q)) (.inl rfl))
          clear HEND
          go_wp2_with fail
          go_quiet (fail)
          go_wp2_with fail
          go_roundw
          case rel => exact ⟨i + 1, f, by go_num, by omega, by omega, .inl (by omega), Lib.hid (HE.out _).1, Lib.hid (HE.out _).2⟩
          case measure => simp [intOf]; omega
        · obtain ⟨k, hk⟩ : ∃ k, j = k + 1 := ⟨j - 1, by omega⟩
          have hd0 : decide ((a : Int) < (j : Int)) = true := by simp; omega
          have hd1 : decide (a < j) = true := by simp; omega
          have hk1 : (j : Int) - 1 = (k : Int) := by omega
          have hkw : IntKind.i64.wrap (k : Int) = k := IntWalk.i64_in _ (by omega)
          have hak : a ≤ k := by omega
          have hki : k ≤ i := by omega
          have hki1 : k < i + 1 := by omega
          have hji1 : j < i + 1 := by omega
          have hne : ¬ j = k := by omega
          have hne2 : ¬ k = j := by omega
          have hkn : k < n := by omega
          have hjn : j < n := by omega
          have hcx := HFL.out.cell hjn
          have hcy := HFL.out.cell hkn
          have hfx := HFL.out.frozen j
          have hfy := HFL.out.frozen k
          have hless := HFI.out.less k (by omega) (by omega) (by omega)
          rw [← HFI.out.at_] at hless
          have HCALL := Lib.hid (fun (w' : World) (h : w.grownBy w' (some g)) => HC.out w' h (f j) (f k) hless (HVF.out.1 _ hjn))
          obtain ⟨u, hu⟩ : ∃ u : Nat, u = f j := ⟨_, rfl⟩
          obtain ⟨v, hv⟩ : ∃ v : Nat, v = f k := ⟨_, rfl⟩
          have hxu : d i = u := by rw [hu]; exact HFI.out.at_.symm
          rw [← hu] at hcx HCALL
          rw [← hv] at hcy HCALL
          have HUV := Lib.hid (And.intro hu (And.intro hv hxu))
          have HK := Lib.hid hk
          have hk0 : (0 : Int) ≤ (k : Int) := by omega
          have hj0 : (0 : Int) ≤ (j : Int) := by omega
          have hkn2 : (k : Int) < (n : Int) := by omega
          have hjn2 : (j : Int) < (n : Int) := by omega
          have hgl := HFL.out.lt
          clear hless hu hv hxu hk
          go_wp2_with fail
          go_region_held3 (fun w' => w'.cell? ⟨g, j, none⟩ = some (.int .i64 (u : Int)) ∧ w'.cell? ⟨g, k, none⟩ = some (.int .i64 (v : Int))) (go_keep) (first | (go_at_fn gf; refine (HCALL.out _ ?_).mono ?_; (first | exact st_trans HG.out (st_drew 1) | exact HG.out); rintro e w3 ⟨⟨z, rfl, hz⟩, hb3⟩; have hcj3 := (hb3.cell (p := ⟨g, j, none⟩) hgl).trans hcx; have hck3 := (hb3.cell (p := ⟨g, k, none⟩) hgl).trans hcy))
          have hl3 := (HFL.out.drew 1).below hb3
          have hg3 := (st_trans (HG.out) (st_drew 1)).st_add hb3
          have HB3 := Lib.hid (And.intro hl3 hg3)
          have hfj3 := hl3.frozen j
          have hfk3 := hl3.frozen k
          by_cases hz0 : z < 0
          · have hdz : decide (z < 0) = true := decide_eq_true hz0
            have HLUV := Lib.hid (hz.1 hz0)
            have HSW := Lib.hid (hl3.sw j k (by omega))
            rw [← HUV.out.1, ← HUV.out.2.1] at HSW
            obtain ⟨w4, hw4⟩ : ∃ w4, w4 = (w3.setCell ⟨g, j, none⟩ (.int .i64 (v : Int))).setCell ⟨g, k, none⟩ (.int .i64 (u : Int)) := ⟨_, rfl⟩
            rw [← hw4] at HSW
            have HW4 := Lib.hid hw4
            have HINS := Lib.hid (show Ins L (Stab.sw f j k) a k i (d i) from by
              have h := HFI.out
              rw [HK.out] at h ⊢
              exact h.step (by have := HK.out; omega) (by have := HK.out; omega) (by rw [HUV.out.2.2, ← HUV.out.2.1]; exact HLUV.out))
            have hm2 : Mv a (i + 1) f (Stab.sw f j k) := sw_mv f ⟨haj, hji1⟩ ⟨hak, hki1⟩
            have HMV2 : RowKit.Hid (Mv a (i + 1) d (Stab.sw f j k)) := Lib.hid (Mv.trans HFM.out hm2)
            clear hm2
            clear hz hw4 hb3 hl3 hg3 HCALL
            go_wp2_with fail
            go_region
            rw [← HW4.out]
            go_wp2_with fail
            go_roundw
            case rel => exact ⟨k, Stab.sw f j k, rfl, hak, hki, Lib.hid ⟨HSW.out.1.drew 1, HMV2.out, HINS.out⟩, Lib.hid (st_trans HB3.out.2 (st_trans HSW.out.2 (st_drew 1)))⟩
            case measure => simp [intOf]; omega
          · have hdz : decide (z < 0) = false := decide_eq_false hz0
            have HE := Lib.hid (HEND.out w3 hl3 hg3 (.inr (by
              have h := HFI.out
              have h1 := HUV.out
              have h2 := HK.out
              rw [h2] at h
              have h3 := h.stop HLO.out (by omega) (by omega) (by rw [h1.2.2, ← h1.2.1]; exact fun hh => hz0 (hz.2 hh))
              rw [h2, Nat.add_sub_cancel]
              exact h3)))
            clear hz hb3 hl3 hg3 HCALL HEND
            go_wp2_with fail
            go_roundw
            case rel => exact ⟨i + 1, f, by go_num, by omega, by omega, .inl (by omega), Lib.hid HE.out.1, Lib.hid HE.out.2⟩
            case measure => simp [intOf]; omega
    · have HF := Lib.hid (show Lies wr g n cap d ∧ Mv a b c d ∧ SortedR L d a b from ⟨hd.out.1, hd.out.2.1, fun p q h1 h2 h3 => by
        rcases hib2 with h | h
        · exact hd.out.2.2.1 p q h1 h2 (by omega)
        · omega⟩)
      have HG := Lib.hid hg.out
      clear hd hg
      go_wp2_with fail
      go_end0
      exact ⟨rfl, ⟨d, HF.out⟩, HG.out⟩
end Go.Proofs.YthfiecakmlpdiaaDoor
