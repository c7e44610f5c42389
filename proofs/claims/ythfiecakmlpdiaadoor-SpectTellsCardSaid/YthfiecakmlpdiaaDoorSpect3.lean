/- spect's blame; Order's comparison. No conditions. -/
import Derived.Test.YthfiecakmlpdiaaDoorSpectY
namespace Go.Proofs.YthfiecakmlpdiaaDoor
open Go.RowKit Go.Mine Go.Mine.Suite Go.Mine.Spec Go.Sort

set_option maxHeartbeats 1000000 in
set_option maxRecDepth 100000 in
theorem blame_any (a b c d : Nat) (ha : a ≤ 12) (hb : b ≤ 12) (hc : c ≤ 12) (hd : d ≤ 12) (w : World) :
    Calls Tryd.prog 18 #[.agg #[.int .i64 a, .int .i64 b, .int .i64 c, .int .i64 d]] w fun e w' => e = .returned (.tuple #[.int .i64 (badOf a b c d : Nat), .int .i64 (top1 (badOf a b c d + goodOf a b c d) : Nat)]) ∧ Below w.heap.size w w' := by
  have m1 : c * (a + b) ≤ 12 * 24 := Nat.mul_le_mul hc (by omega)
  have m2 : a * (c + d) ≤ 12 * 24 := Nat.mul_le_mul ha (by omega)
  obtain ⟨P, hP⟩ : ∃ P : Int, P = (a : Int) * ((c : Int) + (d : Int)) := ⟨_, rfl⟩
  obtain ⟨Q, hQ⟩ : ∃ Q : Int, Q = (c : Int) * ((a : Int) + (b : Int)) := ⟨_, rfl⟩
  have hP0 : 0 ≤ P ∧ P ≤ 288 := by rw [hP]; have : ((a * (c + d) : Nat) : Int) = (a : Int) * ((c : Int) + (d : Int)) := by simp
                                   omega
  have hQ0 : 0 ≤ Q ∧ Q ≤ 288 := by rw [hQ]; have : ((c * (a + b) : Nat) : Int) = (c : Int) * ((a : Int) + (b : Int)) := by simp
                                   omega
  have hbl : badOf a b c d = a * (if c + d < 1 then 1 else c + d) := rfl
  have hgl : goodOf a b c d = c * (if a + b < 1 then 1 else a + b) := rfl
  by_cases h1 : c + d < 1
  · obtain rfl : c = 0 := by omega
    obtain rfl : d = 0 := by omega
    have e1 : badOf a b 0 0 = a := by rw [hbl, if_pos h1, Nat.mul_one]
    have e2 : goodOf a b 0 0 = 0 := by rw [hgl, Nat.zero_mul]
    rw [e1, e2]
    clear hP hQ hP0 hQ0 hbl hgl e1 e2 m1 m2 h1
    by_cases h2 : a + b < 1
    · obtain rfl : a = 0 := by omega
      obtain rfl : b = 0 := by omega
      go_enter Tryd.func18, Tryd.ntmps18
      go_wp2_with fail
      go_quiet (fail)
      go_wp2_with fail
      go_ret2
      exact ⟨rfl, below_drewN ((Below.refl _ _).alloc (Nat.le_refl _) _) _⟩
    · have h3 : ¬ ((a : Int) + (b : Int) < 1) := by omega
      by_cases h4 : a < 1
      · obtain rfl : a = 0 := by omega
        go_enter Tryd.func18, Tryd.ntmps18
        go_wp2_with fail
        go_quiet (fail)
        go_wp2_with fail
        go_ret2
        exact ⟨rfl, below_drewN ((Below.refl _ _).alloc (Nat.le_refl _) _) _⟩
      · have h5 : ¬ ((a : Int) < 1) := by omega
        have e3 : top1 (a + 0) = a := by unfold top1; rw [if_neg (by omega)]; rfl
        rw [e3]
        clear e3 h2 h4
        go_enter Tryd.func18, Tryd.ntmps18
        go_wp2_with fail
        go_quiet (fail)
        go_wp2_with fail
        go_ret2
        exact ⟨rfl, below_drewN ((Below.refl _ _).alloc (Nat.le_refl _) _) _⟩
  · have h1i : ¬ ((c : Int) + (d : Int) < 1) := by omega
    by_cases h2 : a + b < 1
    · obtain rfl : a = 0 := by omega
      obtain rfl : b = 0 := by omega
      have e1 : badOf 0 0 c d = 0 := by rw [hbl, Nat.zero_mul]
      have e2 : goodOf 0 0 c d = c := by rw [hgl, if_pos h2, Nat.mul_one]
      rw [e1, e2]
      clear hP hQ hP0 hQ0 hbl hgl e1 e2 m1 m2 h2
      by_cases h4 : c < 1
      · obtain rfl : c = 0 := by omega
        go_enter Tryd.func18, Tryd.ntmps18
        go_wp2_with fail
        go_quiet (fail)
        go_wp2_with fail
        go_ret2
        exact ⟨rfl, below_drewN ((Below.refl _ _).alloc (Nat.le_refl _) _) _⟩
      · have h5 : ¬ ((c : Int) < 1) := by omega
        have e3 : top1 (0 + c) = c := by unfold top1; rw [if_neg (by omega), Nat.zero_add]
        rw [e3]
        clear e3 h4 h1
        go_enter Tryd.func18, Tryd.ntmps18
        go_wp2_with fail
        go_quiet (fail)
        go_wp2_with fail
        go_ret2
        exact ⟨rfl, below_drewN ((Below.refl _ _).alloc (Nat.le_refl _) _) _⟩
    · have h2i : ¬ ((a : Int) + (b : Int) < 1) := by omega
      have e1 : ((badOf a b c d : Nat) : Int) = P := by rw [hbl, if_neg h1, hP]; simp
      have e2 : ((goodOf a b c d : Nat) : Int) = Q := by rw [hgl, if_neg h2, hQ]; simp
      have e3 : ((top1 (badOf a b c d + goodOf a b c d) : Nat) : Int) = if P + Q < 1 then 1 else P + Q := by
        rw [← e1, ← e2]
        unfold top1
        by_cases h : badOf a b c d + goodOf a b c d < 1
        · rw [if_pos h, if_pos (by omega)]; rfl
        · rw [if_neg h, if_neg (by omega), Int.natCast_add]
      rw [e1, e3]
      have hP' := hP.symm
      have hQ' := hQ.symm
      obtain ⟨hp0, hp1⟩ := hP0
      obtain ⟨hq0, hq1⟩ := hQ0
      have hw1 : wrap64 P = P := IntWalk.wrap64_in _ (by omega)
      have hw2 : wrap64 Q = Q := IntWalk.wrap64_in _ (by omega)
      by_cases h4 : P + Q < 1
      · rw [if_pos h4]
        clear hP hQ hbl hgl e1 e2 e3 m1 m2 h1 h2
        go_enter Tryd.func18, Tryd.ntmps18
        go_wp2_with fail
        go_quiet (fail)
        go_wp2_with fail
        go_ret2
        exact ⟨rfl, below_drewN ((Below.refl _ _).alloc (Nat.le_refl _) _) _⟩
      · rw [if_neg h4]
        clear hP hQ hbl hgl e1 e2 e3 m1 m2 h1 h2
        go_enter Tryd.func18, Tryd.ntmps18
        go_wp2_with fail
        go_quiet (fail)
        go_wp2_with fail
        go_ret2
        exact ⟨rfl, below_drewN ((Below.refl _ _).alloc (Nat.le_refl _) _) _⟩

theorem blame_row (ts : List Nat) (fs : List Bool) (x : Nat) (ht : ts.length ≤ 12) (w : World) :
    Calls Tryd.prog 18 #[.agg #[.int .i64 (cK ts fs x 0 ts.length : Nat), .int .i64 (cK ts fs x 1 ts.length : Nat), .int .i64 (cK ts fs x 2 ts.length : Nat), .int .i64 (cK ts fs x 3 ts.length : Nat)]] w fun e w' => e = .returned (.tuple #[.int .i64 (bl ts fs x : Nat), .int .i64 (bt ts fs x : Nat)]) ∧ Below w.heap.size w w' := by
  have c1 := fun k => cK_le ts fs x k ts.length
  exact blame_any _ _ _ _ (by have := c1 0; omega) (by have := c1 1; omega) (by have := c1 2; omega) (by have := c1 3; omega) w
set_option maxHeartbeats 1000000 in
set_option maxRecDepth 100000 in
theorem order1_any (ts : List Nat) (fs : List Bool) (n x y lp : Nat) (lo : Option Addr) (lc : Nat) (w : World) (hp : w.cell? ⟨lp, 0, none⟩ = some (.slice lo n lc)) (hf : FoursAt w lo (rows4 ts fs n)) (ht : ts.length ≤ 12) (hx : x < n) (hy : y < n) (hn : n ≤ 32) :
    Calls Tryd.prog 17 #[.int .i64 x, .int .i64 y, .pointer (some ⟨lp, 0, none⟩)] w fun e w' => e = .returned (.int .i64 (cmpO ts fs x y)) ∧ Below w.heap.size w w' := by
  have HB1 := Lib.hid (fun w => blame_row ts fs x ht w)
  have HB2 := Lib.hid (fun w => blame_row ts fs y ht w)
  obtain ⟨b, o, hlo, hc⟩ := hf x (by rw [rows4_len]; exact hx)
  subst hlo
  have HF := Lib.hid hf
  rw [rows4_get ts fs x n hx] at hc
  have e0 : w.cell? ⟨b, o + x * 4, none⟩ = some (.int .i64 ((cK ts fs x 0 ts.length : Nat) : Int)) := hc 0 (by omega)
  have e1 : w.cell? ⟨b, o + x * 4 + 1, none⟩ = some (.int .i64 ((cK ts fs x 1 ts.length : Nat) : Int)) := hc 1 (by omega)
  have e2 : w.cell? ⟨b, o + x * 4 + 2, none⟩ = some (.int .i64 ((cK ts fs x 2 ts.length : Nat) : Int)) := hc 2 (by omega)
  have e3 : w.cell? ⟨b, o + x * 4 + 3, none⟩ = some (.int .i64 ((cK ts fs x 3 ts.length : Nat) : Int)) := hc 3 (by omega)
  obtain ⟨A, hA⟩ : ∃ A : Nat, A = bl ts fs x := ⟨_, rfl⟩
  obtain ⟨B, hB⟩ : ∃ B : Nat, B = bt ts fs x := ⟨_, rfl⟩
  obtain ⟨C, hC⟩ : ∃ C : Nat, C = bl ts fs y := ⟨_, rfl⟩
  obtain ⟨D, hD⟩ : ∃ D : Nat, D = bt ts fs y := ⟨_, rfl⟩
  have hbl1 := bl_le ts fs x ht
  have hbl2 := bl_le ts fs y ht
  have hbt1 := bt_le ts fs x ht
  have hbt2 := bt_le ts fs y ht
  rw [← hA] at hbl1
  rw [← hB] at hbt1
  rw [← hC] at hbl2
  rw [← hD] at hbt2
  have p1 : C * B ≤ 165888 := Nat.le_trans (Nat.mul_le_mul hbl2 hbt1) (by decide)
  have p2 : A * D ≤ 165888 := Nat.le_trans (Nat.mul_le_mul hbl1 hbt2) (by decide)
  have q1 : (C : Int) * (B : Int) ≤ 165888 := by rw [← Int.natCast_mul]; omega
  have q2 : (A : Int) * (D : Int) ≤ 165888 := by rw [← Int.natCast_mul]; omega
  have q3 : (0 : Int) ≤ (C : Int) * (B : Int) := by rw [← Int.natCast_mul]; omega
  have q4 : (0 : Int) ≤ (A : Int) * (D : Int) := by rw [← Int.natCast_mul]; omega
  have HCO := Lib.hid (show cmpO ts fs x y = cmpI ((C : Int) * (B : Int)) ((A : Int) * (D : Int)) by unfold cmpO; rw [hA, hB, hC, hD, Int.natCast_mul, Int.natCast_mul])
  have HK := Lib.hid (show ∀ w', Below w.heap.size w w' → w'.cell? ⟨lp, 0, none⟩ = some (.slice (some ⟨b, o, none⟩) n lc) ∧ FoursAt w' (some ⟨b, o, none⟩) (rows4 ts fs n) from fun w' hb => ⟨(hb.cell (p := ⟨lp, 0, none⟩) (World.block_lt_of_cell? w _ hp)).trans hp, hf.below (Nat.le_refl _) hb⟩)
  rw [← hA, ← hB] at HB1
  rw [← hC, ← hD] at HB2
  have hx0 : (0 : Int) ≤ (x : Int) := by omega
  have hy0 : (0 : Int) ≤ (y : Int) := by omega
  have hxn : (x : Int) < (n : Int) := by omega
  have hyn : (y : Int) < (n : Int) := by omega
  clear hf hc hA hB hC hD p1 p2 HF
  go_enter Tryd.func17, Tryd.ntmps17
  go_wp2_with fail
  go_fit (HB1.out w)
  rintro e w1 ⟨rfl, hb1⟩
  have hk1 := HK.out w1 hb1
  have hp1 := hk1.1
  obtain ⟨_, _, he, hd⟩ := hk1.2 y (by rw [rows4_len]; exact hy)
  cases he
  rw [rows4_get ts fs y n hy] at hd
  have f0 : w1.cell? ⟨b, o + y * 4, none⟩ = some (.int .i64 ((cK ts fs y 0 ts.length : Nat) : Int)) := hd 0 (by omega)
  have f1 : w1.cell? ⟨b, o + y * 4 + 1, none⟩ = some (.int .i64 ((cK ts fs y 1 ts.length : Nat) : Int)) := hd 1 (by omega)
  have f2 : w1.cell? ⟨b, o + y * 4 + 2, none⟩ = some (.int .i64 ((cK ts fs y 2 ts.length : Nat) : Int)) := hd 2 (by omega)
  have f3 : w1.cell? ⟨b, o + y * 4 + 3, none⟩ = some (.int .i64 ((cK ts fs y 3 ts.length : Nat) : Int)) := hd 3 (by omega)
  have HBB1 := Lib.hid hb1
  clear hd hk1 hb1 hp e0 e1 e2 e3 HB1
  go_wp2_with fail
  go_fit (HB2.out w1)
  rintro e w2 ⟨rfl, hb2⟩
  have HBB2 := Lib.hid (HBB1.out.trans (hb2.mono HBB1.out.size))
  clear hb2 hp1 f0 f1 f2 f3 HB2
  go_wp2_with fail
  refine (compare_any _ _ _).mono ?_
  rintro e w3 ⟨rfl, rfl⟩
  rw [← HCO.out]
  go_wp2_with fail
  go_ret
  exact ⟨rfl, HBB2.out⟩
end Go.Proofs.YthfiecakmlpdiaaDoor
