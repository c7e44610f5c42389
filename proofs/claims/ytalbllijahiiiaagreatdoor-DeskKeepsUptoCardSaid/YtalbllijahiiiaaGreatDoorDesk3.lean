/- rng.mix, New, Next, Split, Below. No conditions. -/
import Derived.Test.YtalbllijahiiiaaGreatDoorDesk2
import Derived.Test.YtalbllijahiiiaaGreatDoorBlk
import Derived.Laws.Closers25b
import Derived.Deep.RegionHeld3
import Derived.StillTailTactics
namespace Go.Mine.Desk
open Go
/-- Chance. -/
def mixZ2 (a : Int) : Int := bits .xor .u64 (IntKind.u64.wrap (bits .xor .u64 a (a / 134217728) * 10723151780598845931)) (IntKind.u64.wrap (bits .xor .u64 a (a / 134217728) * 10723151780598845931) / 2147483648)
def mixZ (z : Int) : Int := mixZ2 (IntKind.u64.wrap (bits .xor .u64 z (z / 1073741824) * 13787848793156543929))
structure Seed where
  st : Int
  ga : Int
def Seed.ok (s : Seed) : Prop := 0 ≤ s.st ∧ s.st < 18446744073709551616 ∧ 0 ≤ s.ga ∧ s.ga < 18446744073709551616
def Seed.next (s : Seed) : Seed := ⟨IntKind.u64.wrap (s.st + s.ga), s.ga⟩
def Seed.out (s : Seed) : Int := mixZ s.next.st
def Seed.left (s : Seed) : Seed := s.next.next
def Seed.own (s : Seed) : Seed := ⟨s.out, bits .or .u64 s.next.out 1⟩
def Seed.below (s : Seed) (n : Int) : Int := s.out / 4294967296 * n / 4294967296
def Seed.new (n : Int) : Seed := ⟨IntKind.u64.wrap n, 11400714819323198485⟩
theorem wrap_b (z : Int) : 0 ≤ IntKind.u64.wrap z ∧ IntKind.u64.wrap z < 18446744073709551616 := by rw [IntKind.wrap_u64]; omega
theorem bits_b (op : BinOp) (a b : Int) : 0 ≤ bits op .u64 a b ∧ bits op .u64 a b < 18446744073709551616 := by
  have h := bits_within op .u64 a b
  have h1 : IntKind.u64.min = 0 := by decide
  have h2 : IntKind.u64.max = 18446744073709551615 := by decide
  rw [h1, h2] at h
  omega
theorem mixZ_b (z : Int) : 0 ≤ mixZ z ∧ mixZ z < 18446744073709551616 := by unfold mixZ mixZ2; exact bits_b _ _ _
theorem Seed.next_ok {s : Seed} (h : s.ok) : s.next.ok := by
  obtain ⟨h1, h2⟩ := wrap_b (s.st + s.ga)
  exact ⟨h1, h2, h.2.2⟩
theorem Seed.own_ok (s : Seed) : s.own.ok := by
  obtain ⟨h1, h2⟩ := mixZ_b s.next.st
  obtain ⟨h3, h4⟩ := bits_b .or s.next.out 1
  exact ⟨h1, h2, h3, h4⟩
theorem Seed.new_ok (n : Int) : (Seed.new n).ok := by
  obtain ⟨h1, h2⟩ := wrap_b n
  exact ⟨h1, h2, by show (0 : Int) ≤ 11400714819323198485; decide, by show (11400714819323198485 : Int) < 18446744073709551616; decide⟩
theorem Seed.below_b (s : Seed) {n : Int} (h : 1 ≤ n) : 0 ≤ s.below n ∧ s.below n < n := by
  unfold Seed.below
  have h1 := mixZ_b s.next.st
  unfold Seed.out
  obtain ⟨q, hq⟩ : ∃ q, q = mixZ s.next.st / 4294967296 := ⟨_, rfl⟩
  rw [← hq]
  have hq0 : 0 ≤ q := by omega
  have hq1 : q ≤ 4294967295 := by omega
  refine ⟨Int.ediv_nonneg (Int.mul_nonneg hq0 (by omega)) (by decide), Int.ediv_lt_of_lt_mul (by decide) ?_⟩
  have := Int.mul_le_mul_of_nonneg_right hq1 (show 0 ≤ n by omega)
  omega
end Go.Mine.Desk
namespace Go.Proofs.YtalbllijahiiiaaGreatDoor
open Go.RowKit Go.Mine Go.Mine.Desk

abbrev seedV (s : Seed) : Value := .agg #[.int .u64 s.st, .int .u64 s.ga]
theorem mix_any (z : Int) (hz : 0 ≤ z ∧ z < 18446744073709551616) (w : World) : Calls Tryz.prog 162 #[.int .u64 z] w fun e w' => e = .returned (.int .u64 (mixZ z)) ∧ w' = w := by
  have h1 := hz.1
  have h2 := hz.2
  go_enter Tryz.func162, Tryz.ntmps162
  go_wp2_with fail
  go_ret
  exact ⟨rfl, rfl⟩
theorem new_any (n : Int) (w : World) : Calls Tryz.prog 121 #[.int .i64 n] w fun e w' => e = .returned (seedV (Seed.new n)) ∧ Below w.heap.size w w' := by
  have HB := Lib.hid (((Below.refl w.heap.size w).alloc (Nat.le_refl _) (.cells #[.int .u64 0, .int .u64 0] 87)))
  go_enter Tryz.func121, Tryz.ntmps121
  go_wp2_with fail
  refine bodyPost_ret (v := .agg #[.int .u64 (IntKind.u64.wrap n), .int .u64 11400714819323198485]) (by simp [results, Tryz.results121, go_sem]) rfl ⟨rfl, ?_⟩
  exact (Below.refl _ _).alloc (Nat.le_refl _) _
theorem next_any (st ga : Int) (hs : (Seed.mk st ga).ok) (w : World) : Calls Tryz.prog 145 #[.agg #[.int .u64 st, .int .u64 ga]] w fun e w' => e = .returned (.tuple #[.int .u64 (Seed.mk st ga).out, seedV (Seed.mk st ga).next]) ∧ Below w.heap.size w w' := by
  obtain ⟨h1, h2, h3, h4⟩ := hs
  go_enter Tryz.func145, Tryz.ntmps145
  go_wp2_with fail
  go_region_with (go_at_call 162; refine (mix_any _ (wrap_b _) _).mono ?_; rintro e w' ⟨rfl, rfl⟩)
  all_goals
    (try go_wp2)
    refine bodyPost_ret (v := .tuple #[.int .u64 (mixZ (IntKind.u64.wrap (st + ga))), .agg #[.int .u64 (IntKind.u64.wrap (st + ga)), .int .u64 ga]]) (by simp [results, Tryz.results145, go_sem]) rfl ⟨rfl, ?_⟩
    exact (((Below.refl w.heap.size w).alloc (Nat.le_refl _) _).alloc (by simp) _).drew

set_option maxHeartbeats 1000000 in
theorem split_any (st ga : Int) (hs : (Seed.mk st ga).ok) (w : World) : Calls Tryz.prog 122 #[.agg #[.int .u64 st, .int .u64 ga]] w fun e w' => e = .returned (.tuple #[seedV (Seed.mk st ga).left, seedV (Seed.mk st ga).own]) ∧ Below w.heap.size w w' := by
  obtain ⟨s1, hs1⟩ : ∃ s1, s1 = (Seed.mk st ga).next := ⟨_, rfl⟩
  obtain ⟨s2, hs2⟩ : ∃ s2, s2 = s1.next := ⟨_, rfl⟩
  obtain ⟨o1, ho1⟩ : ∃ o1, o1 = (Seed.mk st ga).out := ⟨_, rfl⟩
  obtain ⟨o2, ho2⟩ : ∃ o2, o2 = s1.out := ⟨_, rfl⟩
  have HN1 := Lib.hid (fun w => next_any st ga hs w)
  have HN2 := Lib.hid (fun w => next_any s1.st s1.ga (by rw [hs1]; exact Seed.next_ok hs) w)
  rw [← hs1, ← ho1] at HN1
  rw [show Seed.mk s1.st s1.ga = s1 from rfl, ← hs2, ← ho2] at HN2
  have HRES := Lib.hid (show (Seed.mk st ga).left = s2 ∧ (Seed.mk st ga).own = ⟨o1, bits .or .u64 o2 1⟩ from ⟨by rw [hs2, hs1]; rfl, by rw [ho1, ho2, hs1]; rfl⟩)
  obtain ⟨a1, b1⟩ := s1
  obtain ⟨a2, b2⟩ := s2
  clear hs hs1 hs2 ho1 ho2
  obtain ⟨w0, hw0⟩ : ∃ w0, w0 = ((w.alloc (.cells #[.int .u64 st, .int .u64 ga] 87)).alloc (.cells #[.int .u64 0, .int .u64 0] 87)).alloc (.cells #[.int .u64 0, .int .u64 0] 87) := ⟨_, rfl⟩
  have hb0 : Below w.heap.size w w0 := by rw [hw0]; exact (((Below.refl w.heap.size w).alloc (Nat.le_refl _) _).alloc (by simp) _).alloc (by simp; omega) _
  have k0 : Blk w0 w.heap.size 87 #[.int .u64 st, .int .u64 ga] := by rw [hw0]; exact ((Blk.new _ _ _).alloc _).alloc _
  have k1 : Blk w0 (w.heap.size + 1) 87 #[.int .u64 0, .int .u64 0] := by rw [hw0]; exact (show Blk ((w.alloc (.cells #[.int .u64 st, .int .u64 ga] 87)).alloc (.cells #[.int .u64 0, .int .u64 0] 87)) (w.heap.size + 1) _ _ by have := Blk.new (w.alloc (.cells #[.int .u64 st, .int .u64 ga] 87)) 87 #[.int .u64 0, .int .u64 0]; simpa using this).alloc _
  have k2 : Blk w0 (w.heap.size + 1 + 1) 87 #[.int .u64 0, .int .u64 0] := by rw [hw0]; have := Blk.new ((w.alloc (.cells #[.int .u64 st, .int .u64 ga] 87)).alloc (.cells #[.int .u64 0, .int .u64 0] 87)) 87 #[.int .u64 0, .int .u64 0]; simpa using this
  have HK := Lib.hid (And.intro hb0 (And.intro k0 (And.intro k1 k2)))
  have HC1 := Lib.hid (HN1.out w0)
  rw [hw0] at HC1
  have HW0 := Lib.hid hw0
  obtain ⟨B, hB⟩ : ∃ B, w.heap.size = B := ⟨_, rfl⟩
  clear hb0 k0 k1 k2 hw0 HN1
  go_enter Tryz.func122, Tryz.ntmps122
  go_wp2_with fail
  refine HC1.out.mono ?_
  clear HC1
  rintro e w1 ⟨rfl, hb1⟩
  rw [← HW0.out] at hb1
  have hb1' := HK.out.1.trans (hb1.mono HK.out.1.size)
  have k0 := HK.out.2.1.below hb1
  have k1 := HK.out.2.2.1.below hb1
  have k2 := HK.out.2.2.2.below hb1
  rw [hB] at k0 k1 k2
  have c00 := k0.cell 0
  have c01 := k0.cell 1
  have f00 := k0.froz 0
  have f01 := k0.froz 1
  have k0' := (k0.set 0 (.int .u64 a1)).set 1 (.int .u64 b1)
  have k1' := (k1.other B 0 (by omega) (.int .u64 a1)).other B 1 (by omega) (.int .u64 b1)
  have k2' := (k2.other B 0 (by omega) (.int .u64 a1)).other B 1 (by omega) (.int .u64 b1)
  have hb1'' : Below w.heap.size w ((w1.setCell ⟨B, 0, none⟩ (.int .u64 a1)).setCell ⟨B, 1, none⟩ (.int .u64 b1)) := (hb1'.setCell (by simp; omega) _).setCell (by simp; omega) _
  have HK1 := Lib.hid (And.intro hb1'' (And.intro k0' (And.intro k1' k2')))
  clear hb1 hb1' k0 k1 k2 k0' k1' k2' hb1'' HK
  go_wp2_with fail
  refine (HN2.out _).mono ?_
  rintro e w2 ⟨rfl, hb2⟩
  have hb2' := HK1.out.1.trans (hb2.mono HK1.out.1.size)
  have k0 := HK1.out.2.1.below hb2
  have k1 := HK1.out.2.2.1.below hb2
  have k2 := HK1.out.2.2.2.below hb2
  have d00 := k0.cell 0
  have d01 := k0.cell 1
  have g00 := k0.froz 0
  have g01 := k0.froz 1
  have d10 := k1.cell 0
  have d11 := k1.cell 1
  have g10 := k1.froz 0
  have g11 := k1.froz 1
  have d20 := k2.cell 0
  have d21 := k2.cell 1
  have g20 := k2.froz 0
  have g21 := k2.froz 1
  have HB2 := Lib.hid hb2'
  clear hb2 hb2' k0 k1 k2 c00 c01 f00 f01 HK1
  go_wp2_with fail
  refine bodyPost_ret (v := .tuple #[.agg #[.int .u64 a2, .int .u64 b2], .agg #[.int .u64 o1, .int .u64 (bits .or .u64 o2 1)]]) (by simp [results, Tryz.results122, go_sem, d10, d11, d20, d21]) rfl ⟨?_, ?_⟩
  · rw [HRES.out.1, HRES.out.2]
  · rw [hB]
    have h := HB2.out
    rw [hB] at h
    exact (((((h.setCell (by simp) _).setCell (by simp) _).setCell (by simp) _).setCell (by simp) _).setCell (by simp; omega) _).setCell (by simp; omega) _

set_option maxHeartbeats 1000000 in
theorem below_any (st ga : Int) (hs : (Seed.mk st ga).ok) (n : Int) (hn : 1 ≤ n ∧ n ≤ 1001) (w : World) : Calls Tryz.prog 147 #[.agg #[.int .u64 st, .int .u64 ga], .int .i64 n] w fun e w' => e = .returned (.tuple #[.int .i64 ((Seed.mk st ga).below n), seedV (Seed.mk st ga).next, .nilIface]) ∧ Below w.heap.size w w' := by
  obtain ⟨s1, hs1⟩ : ∃ s1, s1 = (Seed.mk st ga).next := ⟨_, rfl⟩
  obtain ⟨o1, ho1⟩ : ∃ o1, o1 = (Seed.mk st ga).out := ⟨_, rfl⟩
  have hob : 0 ≤ o1 ∧ o1 < 18446744073709551616 := by rw [ho1]; exact mixZ_b _
  have HN1 := Lib.hid (fun w => next_any st ga hs w)
  rw [← hs1, ← ho1] at HN1
  have HRES := Lib.hid (show (Seed.mk st ga).next = s1 ∧ (Seed.mk st ga).below n = o1 / 4294967296 * n / 4294967296 from ⟨hs1.symm, by rw [ho1]; rfl⟩)
  obtain ⟨a1, b1⟩ := s1
  clear hs hs1 ho1
  obtain ⟨w0, hw0⟩ : ∃ w0, w0 = (w.alloc (.cells #[.int .u64 st, .int .u64 ga] 87)).alloc (.cells #[.int .u64 0, .int .u64 0] 87) := ⟨_, rfl⟩
  have hb0 : Below w.heap.size w w0 := by rw [hw0]; exact ((Below.refl w.heap.size w).alloc (Nat.le_refl _) _).alloc (by simp) _
  have k0 : Blk w0 w.heap.size 87 #[.int .u64 st, .int .u64 ga] := by rw [hw0]; exact (Blk.new _ _ _).alloc _
  have k1 : Blk w0 (w.heap.size + 1) 87 #[.int .u64 0, .int .u64 0] := by rw [hw0]; have := Blk.new (w.alloc (.cells #[.int .u64 st, .int .u64 ga] 87)) 87 #[.int .u64 0, .int .u64 0]; simpa using this
  have HK := Lib.hid (And.intro hb0 (And.intro k0 k1))
  have HC1 := Lib.hid (HN1.out w0)
  rw [hw0] at HC1
  have HW0 := Lib.hid hw0
  obtain ⟨B, hB⟩ : ∃ B, w.heap.size = B := ⟨_, rfl⟩
  have hd1 : decide (n < 1) = false := by rw [decide_eq_false_iff_not]; omega
  have hd2 : decide (2147483647 < n) = false := by rw [decide_eq_false_iff_not]; omega
  have h1 := hn.1
  have h2 := hn.2
  obtain ⟨q, hq⟩ : ∃ q, q = o1 / 4294967296 := ⟨_, rfl⟩
  have hq0 : 0 ≤ q := by omega
  have hq1 : q ≤ 4294967295 := by omega
  have hqn0 : 0 ≤ q * n := Int.mul_nonneg hq0 (by omega)
  have hqn1 : q * n ≤ 4299262262295 := by
    have h3 := Int.mul_le_mul hq1 h2 (by omega) (by omega : (0 : Int) ≤ 4294967295)
    omega
  have hw1 : IntKind.u64.wrap n = n := by rw [IntKind.wrap_u64]; omega
  have hw2 : IntKind.u64.wrap (q * n) = q * n := by rw [IntKind.wrap_u64]; omega
  have hw3 : IntKind.i64.wrap (q * n / 4294967296) = q * n / 4294967296 := IntWalk.i64_in _ (by omega)
  clear hb0 k0 k1 hw0 HN1 hn
  go_enter Tryz.func147, Tryz.ntmps147
  go_wp2_with fail
  refine HC1.out.mono ?_
  clear HC1
  rintro e w1 ⟨rfl, hb1⟩
  rw [← HW0.out] at hb1
  have hb1' := HK.out.1.trans (hb1.mono HK.out.1.size)
  have k0 := HK.out.2.1.below hb1
  have k1 := HK.out.2.2.below hb1
  rw [hB] at k0 k1
  have c00 := k0.cell 0
  have c01 := k0.cell 1
  have f00 := k0.froz 0
  have f01 := k0.froz 1
  have c10 := k1.cell 0
  have c11 := k1.cell 1
  have f10 := k1.froz 0
  have f11 := k1.froz 1
  have k0' := (k0.set 0 (.int .u64 a1)).set 1 (.int .u64 b1)
  have k1' := (k1.other B 0 (by omega) (.int .u64 a1)).other B 1 (by omega) (.int .u64 b1)
  obtain ⟨w2, hw2e⟩ : ∃ w2, w2 = (w1.setCell ⟨B, 0, none⟩ (.int .u64 a1)).setCell ⟨B, 1, none⟩ (.int .u64 b1) := ⟨_, rfl⟩
  rw [← hw2e] at k0' k1'
  have hb2 : Below w.heap.size w w2 := by rw [hw2e]; exact (hb1'.setCell (by simp; omega) _).setCell (by simp; omega) _
  have HK2 := Lib.hid (And.intro hb2 (And.intro k0' k1'))
  have HW2 := Lib.hid hw2e
  rw [← hq] at HRES
  have hq' : o1 / 4294967296 = q := hq.symm
  clear hb1 hb1' k0 k1 HK hq k0' k1' hw2e hb2
  go_wp2_with fail
  rw [← HW2.out]
  have e0 : w2.cell? ⟨B, 0, none⟩ = some (.int .u64 a1) := HK2.out.2.1.cell 0
  have e1 : w2.cell? ⟨B, 1, none⟩ = some (.int .u64 b1) := HK2.out.2.1.cell 1
  have e2 : w2.cell? ⟨B + 1, 0, none⟩ = some (.int .u64 0) := HK2.out.2.2.cell 0
  have e3 : w2.cell? ⟨B + 1, 1, none⟩ = some (.int .u64 0) := HK2.out.2.2.cell 1
  have g2 : w2.frozen? ⟨B + 1, 0, none⟩ = false := HK2.out.2.2.froz 0
  have g3 : w2.frozen? ⟨B + 1, 1, none⟩ = false := HK2.out.2.2.froz 1
  clear c00 c01 f00 f01 c10 c11 f10 f11
  go_region_held3 (fun w' => w'.cell? ⟨B, 0, none⟩ = some (.int .u64 a1) ∧ w'.cell? ⟨B, 1, none⟩ = some (.int .u64 b1)) (go_keep) (fail)
  all_goals
    (try go_wp2)
    refine bodyPost_ret (v := .tuple #[.int .i64 (q * n / 4294967296), .agg #[.int .u64 a1, .int .u64 b1], .nilIface]) (by simp [results, Tryz.results147, go_sem, e2, e3]) rfl ⟨?_, ?_⟩
    · rw [HRES.out.1, HRES.out.2]
    · rw [hB]
      have h := HK2.out.1
      rw [hB] at h
      exact ((h.setCell (by simp) _).setCell (by simp) _).drew
end Go.Proofs.YtalbllijahiiiaaGreatDoor
