/- gen.count, Count at a desk's right generators. No conditions but what is read. rng.mix, New, Next, Split, Below. No conditions. gen.chooser's made, whatever chooses (Chooser: a function value, what it holds, what it touches). -/
import Derived.Test.YtalbllijahiiiaaGreatDoorDkAA
import Derived.Test.YtalbllijahiiiaaGreatDoorBlk
import Derived.Laws.Closers25b
import Derived.Deep.RegionHeld3
import Derived.StillTailTactics
import Derived.Shelf.Abstract
import Derived.Deep.RegionHeld2
import Derived.RegionDies
import Derived.RegionTactic
section
namespace Go.Mine.Desk
theorem capped_le (n : Int) : capped n ≤ 1048577 := by unfold capped; omega
theorem capped_nn {n : Int} (h : 0 ≤ n) : 0 ≤ capped n := by unfold capped; omega
theorem cntN_b {c : Int} (h0 : 0 ≤ c) : ∀ k, 0 ≤ (cntN c k).1 ∧ (cntN c k).1 ≤ 1048577 ∧ 0 ≤ (cntN c k).2 ∧ (cntN c k).2 ≤ 1048577
  | 0 => by simp [cntN]
  | k + 1 => by
    obtain ⟨h1, h2, h3, h4⟩ := cntN_b h0 k
    have h5 : 0 ≤ capped ((cntN c k).2 * c) := capped_nn (Int.mul_nonneg h3 h0)
    simp only [cntN]
    exact ⟨capped_nn (by omega), capped_le _, h5, capped_le _⟩
theorem mul_b {p c : Int} (h0 : 0 ≤ p) (h1 : p ≤ 1048577) (h2 : 0 ≤ c) (h3 : c ≤ 1001) : 0 ≤ p * c ∧ p * c ≤ 1049625577 := by
  refine ⟨Int.mul_nonneg h0 h2, ?_⟩
  have := Int.mul_le_mul h1 h3 h2 (by omega : (0 : Int) ≤ 1048577)
  omega
theorem cnt_int (a b : Int) : cnt (.int a b) = b - a + 1 := rfl
theorem cnt_many (n a b : Int) : cnt (.many n a b) = (cntN (b - a + 1) n.toNat).1 := rfl
theorem cnt_b {g : G} (h : g.right) : 1 ≤ cnt g ∧ cnt g ≤ 1048577 := by
  cases g with
  | int a b => obtain ⟨_, _, h1, h2⟩ := h; rw [cnt_int]; omega
  | many n a b =>
    obtain ⟨_, _, _, _, h1, h2⟩ := h
    rw [cnt_many]
    have h3 : ∀ k, 1 ≤ (cntN (b - a + 1) k).1 := by
      intro k
      induction k with
      | zero => simp [cntN]
      | succ k ih =>
        have h5 : 0 ≤ capped ((cntN (b - a + 1) k).2 * (b - a + 1)) := capped_nn (Int.mul_nonneg (cntN_b (by omega) k).2.2.1 (by omega))
        simp only [cntN]
        unfold capped at h5 ⊢
        omega
    exact ⟨h3 _, (cntN_b (by omega) _).2.1⟩
theorem right_near {g : G} (h : g.right) : g.near := by
  cases g with
  | int a b => exact ⟨h.1, h.2.1⟩
  | many n a b => obtain ⟨h1, h2, h3, h4, _⟩ := h; exact ⟨by unfold near; omega, h3, h4⟩
end Go.Mine.Desk
namespace Go.Proofs.YtalbllijahiiiaaGreatDoor
open Go.RowKit Go.Mine Go.Mine.Desk

theorem right_fault {g : G} (h : g.right) : faultG g = 0 := by
  cases g with
  | int a b => obtain ⟨_, _, h1, h2⟩ := h; exact if_pos ⟨h1, h2⟩
  | many n a b => obtain ⟨h1, h2, _, _, h3, h4⟩ := h; exact (if_pos ⟨h1, h2⟩).trans (if_pos ⟨h3, h4⟩)
theorem fault_right {g : G} (hn : g.near) (h : faultG g = 0) : g.right := by
  cases g with
  | int a b =>
    have h : (if a ≤ b ∧ b - a ≤ 1000 then (0 : Int) else 1) = 0 := h
    split at h
    · rename_i h2; exact ⟨hn.1, hn.2, h2.1, h2.2⟩
    · cases h
  | many n a b =>
    have h : (if 0 ≤ n ∧ n ≤ 5 then (if a ≤ b ∧ b - a ≤ 1000 then (0 : Int) else 1) else 1) = 0 := h
    split at h
    · rename_i h1
      split at h
      · rename_i h2; exact ⟨h1.1, h1.2, hn.2.1, hn.2.2, h2.1, h2.2⟩
      · cases h
    · cases h
theorem checkR_any (g : G) (v : Value) (hr : g.right) (w : World) (hv : GenAt w v g) : Calls Tryz.prog 79 #[v] w fun e w' => e = .returned .nilIface ∧ Below w.heap.size w w' := by
  have h := check_any g v (right_near hr) w hv
  rwa [right_fault hr, errV_zero] at h

theorem capped_any (x : Int) (w : World) : Calls Tryz.prog 111 #[.int .i64 x] w fun e w' => e = .returned (.int .i64 (capped x)) ∧ w' = w := by
  go_enter Tryz.func111, Tryz.ntmps111
  go_wp2_with fail
  all_goals
    go_ret
    refine ⟨?_, rfl⟩
    unfold capped
    first
      | rfl
      | (simp; omega)
theorem count_int (a b : Int) (ha : near a) (hb : near b) (w : World) : Calls Tryz.prog 81 #[intG a b] w fun e w' => e = .returned (.int .i64 (b - a + 1)) ∧ Below w.heap.size w w' := by
  have HB := Lib.hid ((Below.refl w.heap.size w).alloc (Nat.le_refl _) (.cells #[.int .i64 2, .int .i64 a, .int .i64 b, .slice none 0 0] 28))
  obtain ⟨h1, h2⟩ : -2147483648 ≤ b - a ∧ b - a ≤ 2147483648 := by unfold near at ha hb; omega
  clear ha hb
  go_enter Tryz.func81, Tryz.ntmps81
  go_wp2_with fail
  go_ret
  exact ⟨rfl, HB.out⟩
set_option maxHeartbeats 1000000 in
theorem count_many (n a b : Int) (gb : Nat) (hr : (G.many n a b).right) (w : World) (hs : SubAt w gb a b) : Calls Tryz.prog 81 #[manyG n gb] w fun e w' => e = .returned (.int .i64 (cnt (.many n a b))) ∧ Below w.heap.size w w' := by
  obtain ⟨w1, hw1⟩ : ∃ w1, w1 = w.alloc (.cells #[.int .i64 4, .int .i64 n, .int .i64 0, .slice (some ⟨gb, 0, none⟩) 1 1] 28) := ⟨_, rfl⟩
  have hb1 : Below w.heap.size w w1 := by rw [hw1]; exact (Below.refl _ _).alloc (Nat.le_refl _) _
  have hr1 : RowAt w1 w.heap.size #[.int .i64 4, .int .i64 n, .int .i64 0, .slice (some ⟨gb, 0, none⟩) 1 1] := by rw [hw1]; exact heap_alloc_new _ _
  have hs1 := hs.on hb1
  obtain ⟨h0, h5, ha, hb, hab, hba⟩ := hr
  have HC := Lib.hid (count_int a b ha hb w1)
  have HR := Lib.hid (And.intro hb1 hr1)
  have s0 := hs1.c0
  have s1 := hs1.c1
  have s2 := hs1.c2
  have s3 := hs1.c3
  rw [hw1] at HC s0 s1 s2 s3
  have HW := Lib.hid hw1
  obtain ⟨c, hc⟩ : ∃ c, c = b - a + 1 := ⟨_, rfl⟩
  rw [← hc] at HC
  rw [cnt_many, ← hc]
  have hc0 : 0 ≤ c := by omega
  have hc1 : c ≤ 1001 := by omega
  obtain ⟨m, rfl⟩ : ∃ m : Nat, n = m := ⟨n.toNat, by omega⟩
  rw [Int.toNat_natCast]
  clear hs hs1 hb1 hr1 hw1 ha hb hc hab hba
  go_enter Tryz.func81, Tryz.ntmps81
  go_wp2_with fail
  refine HC.out.mono ?_
  clear HC
  rintro e w2 ⟨rfl, hb2⟩
  rw [← HW.out] at hb2
  have hr2 := HR.out.2.on hb2
  have c1 := hr2.cell 1
  have HB2 := Lib.hid (HR.out.1.trans (hb2.mono HR.out.1.size))
  clear hb2 hr2 s0 s1 s2 s3
  go_wp2_with fail
  go_loopw [3, 7, 44] (fun nv pv kv wr => ∃ k : Nat, kv = .int .i64 (k : Int) ∧ k ≤ m ∧ nv = .int .i64 (cntN c k).1 ∧ pv = .int .i64 (cntN c k).2 ∧ RowKit.Hid (wr = w2)) (fun _ _ kv _ => m - (intOf kv).toNat)
  case atStart => exact ⟨0, rfl, by omega, rfl, rfl, Lib.hid rfl⟩
  case round =>
    obtain ⟨k, rfl, hk, rfl, rfl, hwr⟩ := hrel
    obtain ⟨hn0, hn1, hp0, hp1⟩ := cntN_b hc0 k
    have hst : cntN c (k + 1) = (capped ((cntN c k).1 + capped ((cntN c k).2 * c)), capped ((cntN c k).2 * c)) := rfl
    have HST := Lib.hid hst
    obtain ⟨x, hx⟩ : ∃ x, x = (cntN c k).1 := ⟨_, rfl⟩
    obtain ⟨p, hp⟩ : ∃ p, p = (cntN c k).2 := ⟨_, rfl⟩
    rw [← hx] at hn0 hn1 HST ⊢
    have HXX := Lib.hid hx
    rw [← hp] at hp0 hp1 HST ⊢
    obtain ⟨hm0, hm1⟩ := mul_b hp0 hp1 hc0 hc1
    clear hst hx hp
    by_cases hlt : k < m
    · have hcp1 := capped_le (p * c)
      have hcp0 := capped_nn hm0
      have HC1 := Lib.hid (fun w => capped_any (p * c) w)
      have HC2 := Lib.hid (fun w => capped_any (x + capped (p * c)) w)
      obtain ⟨y, hy⟩ : ∃ y, y = capped (p * c) := ⟨_, rfl⟩
      rw [← hy] at hcp0 hcp1 HC1 HC2 HST
      obtain ⟨z, hz⟩ : ∃ z, z = p * c := ⟨_, rfl⟩
      rw [← hz] at hm0 hm1 HC1
      clear hy
      go_wp2_with fail
      rw [← hz]
      refine (HC1.out _).mono ?_
      clear HC1
      rintro e w' ⟨rfl, rfl⟩
      clear hz
      go_wp2_with fail
      refine (HC2.out _).mono ?_
      clear HC2
      rintro e w' ⟨rfl, rfl⟩
      go_wp2_with fail
      go_roundw
      case rel => exact ⟨k + 1, by go_num, by omega, by rw [HST.out], by rw [HST.out], hwr⟩
      case measure => simp [intOf]; omega
    · obtain rfl : k = m := by omega
      have HB3 := Lib.hid (show Below w.heap.size w wr by rw [hwr.out]; exact HB2.out)
      clear hwr
      go_wp2_with fail
      go_ret
      rw [← HXX.out]
      exact ⟨rfl, HB3.out⟩
theorem gcount_any (g : G) (v : Value) (hr : g.right) (w : World) (hv : GenAt w v g) : Calls Tryz.prog 81 #[v] w fun e w' => e = .returned (.int .i64 (cnt g)) ∧ Below w.heap.size w w' := by
  cases g with
  | int a b => obtain rfl : v = intG a b := hv; exact count_int a b hr.1 hr.2.1 w
  | many n a b => obtain ⟨gb, rfl, hs⟩ := hv; exact count_many n a b gb hr w hs
theorem GenAt.shape {w : World} {v : Value} {g : G} (h : GenAt w v g) : ∃ k a b ao n c, v = .agg #[.int .i64 k, .int .i64 a, .int .i64 b, .slice ao n c] := by
  cases g with
  | int a b => exact ⟨_, _, _, _, _, _, h⟩
  | many n a b => obtain ⟨gb, h, _⟩ := h; exact ⟨_, _, _, _, _, _, h⟩
def countX (g : G) : Value := if cnt g ≤ 1048576 then .tuple #[.int .i64 (cnt g), .nilIface] else .tuple #[.int .i64 0, .iface 36 (.int .i64 4)]
theorem gCount_any (g : G) (v : Value) (hr : g.right) (w : World) (hv : GenAt w v g) : Calls Tryz.prog 50 #[v] w fun e w' => e = .returned (countX g) ∧ Below w.heap.size w w' := by
  obtain ⟨k, a, b, ao, n, c, hsh⟩ := hv.shape
  obtain ⟨w1, hw1⟩ : ∃ w1, w1 = w.alloc (.cells #[.int .i64 k, .int .i64 a, .int .i64 b, .slice ao n c] 28) := ⟨_, rfl⟩
  have hb1 : Below w.heap.size w w1 := by rw [hw1]; exact (Below.refl _ _).alloc (Nat.le_refl _) _
  have hr1 : RowAt w1 w.heap.size #[.int .i64 k, .int .i64 a, .int .i64 b, .slice ao n c] := by rw [hw1]; exact heap_alloc_new _ _
  have hv1 := hv.on hb1
  subst hsh
  have HC := Lib.hid (checkR_any g _ hr w1 hv1)
  have HR := Lib.hid (And.intro hb1 (And.intro hr1 hv1))
  have HK := Lib.hid (fun w (h : GenAt w (.agg #[.int .i64 k, .int .i64 a, .int .i64 b, .slice ao n c]) g) => gcount_any g _ hr w h)
  rw [hw1] at HC
  have HW := Lib.hid hw1
  obtain ⟨z, hz⟩ : ∃ z, z = cnt g := ⟨_, rfl⟩
  have hcx : countX g = if z ≤ 1048576 then .tuple #[.int .i64 z, .nilIface] else .tuple #[.int .i64 0, .iface 36 (.int .i64 4)] := by rw [hz]; rfl
  rw [← hz] at HK
  rw [hcx]
  clear hb1 hr1 hv1 hw1 hv hz hcx hr
  by_cases hle : z ≤ 1048576
  · have hd : decide (1048576 < z) = false := by rw [decide_eq_false_iff_not]; omega
    rw [if_pos hle]
    go_enter Tryz.func50, Tryz.ntmps50
    go_wp2_with fail
    refine HC.out.mono ?_
    clear HC
    rintro e w2 ⟨rfl, hb2⟩
    rw [← HW.out] at hb2
    have hr2 := HR.out.2.1.on hb2
    have HV2 := Lib.hid (HR.out.2.2.on hb2)
    have s0 := hr2.cell 0
    have s1 := hr2.cell 1
    have s2 := hr2.cell 2
    have s3 := hr2.cell 3
    have HB2 := Lib.hid (HR.out.1.trans (hb2.mono HR.out.1.size))
    clear hb2 hr2
    go_wp2_with fail
    refine (HK.out _ HV2.out).mono ?_
    clear HK
    rintro e w3 ⟨rfl, hb3⟩
    have HB3 := Lib.hid (HB2.out.trans (hb3.mono HB2.out.size))
    clear hb3
    go_wp2_with fail
    go_ret2
    exact ⟨rfl, HB3.out⟩
  · have hd : decide (1048576 < z) = true := by rw [decide_eq_true_iff]; omega
    rw [if_neg hle]
    go_enter Tryz.func50, Tryz.ntmps50
    go_wp2_with fail
    refine HC.out.mono ?_
    clear HC
    rintro e w2 ⟨rfl, hb2⟩
    rw [← HW.out] at hb2
    have hr2 := HR.out.2.1.on hb2
    have HV2 := Lib.hid (HR.out.2.2.on hb2)
    have s0 := hr2.cell 0
    have s1 := hr2.cell 1
    have s2 := hr2.cell 2
    have s3 := hr2.cell 3
    have HB2 := Lib.hid (HR.out.1.trans (hb2.mono HR.out.1.size))
    clear hb2 hr2
    go_wp2_with fail
    refine (HK.out _ HV2.out).mono ?_
    clear HK
    rintro e w3 ⟨rfl, hb3⟩
    have HB3 := Lib.hid (HB2.out.trans (hb3.mono HB2.out.size))
    clear hb3
    go_wp2_with fail
    go_ret2
    exact ⟨rfl, HB3.out⟩
end Go.Proofs.YtalbllijahiiiaaGreatDoor
end

section
namespace Go.Mine.Desk
open Go
def mixZ2 (a : Int) : Int := bits .xor .u64 (IntKind.u64.wrap (bits .xor .u64 a (a / 134217728) * 10723151780598845931)) (IntKind.u64.wrap (bits .xor .u64 a (a / 134217728) * 10723151780598845931) / 2147483648)
def mixZ (z : Int) : Int := mixZ2 (IntKind.u64.wrap (bits .xor .u64 z (z / 1073741824) * 13787848793156543929))
structure Seed where
  st : Int
  ga : Int
def Seed.ok (s : Seed) : Prop := 0 ≤ s.st ∧ s.st < 18446744073709551616 ∧ 0 ≤ s.ga ∧ s.ga < 18446744073709551616
def Seed.next (s : Seed) : Seed := ⟨IntKind.u64.wrap (s.st + s.ga), s.ga⟩
def Seed.out (s : Seed) : Int := mixZ s.next.st
def Seed.left (s : Seed) : Seed := s.next.next
def Seed.own (s : Seed) : Seed := ⟨s.out, bits .or .u64 s.next.out 1⟩
def Seed.below (s : Seed) (n : Int) : Int := s.out / 4294967296 * n / 4294967296
def Seed.new (n : Int) : Seed := ⟨IntKind.u64.wrap n, 11400714819323198485⟩
theorem wrap_b (z : Int) : 0 ≤ IntKind.u64.wrap z ∧ IntKind.u64.wrap z < 18446744073709551616 := by rw [IntKind.wrap_u64]; omega
theorem bits_b (op : BinOp) (a b : Int) : 0 ≤ bits op .u64 a b ∧ bits op .u64 a b < 18446744073709551616 := by
  have h := bits_within op .u64 a b
  have h1 : IntKind.u64.min = 0 := by decide
  have h2 : IntKind.u64.max = 18446744073709551615 := by decide
  rw [h1, h2] at h
  omega
theorem mixZ_b (z : Int) : 0 ≤ mixZ z ∧ mixZ z < 18446744073709551616 := by unfold mixZ mixZ2; exact bits_b _ _ _
theorem Seed.next_ok {s : Seed} (h : s.ok) : s.next.ok := by
  obtain ⟨h1, h2⟩ := wrap_b (s.st + s.ga)
  exact ⟨h1, h2, h.2.2⟩
theorem Seed.own_ok (s : Seed) : s.own.ok := by
  obtain ⟨h1, h2⟩ := mixZ_b s.next.st
  obtain ⟨h3, h4⟩ := bits_b .or s.next.out 1
  exact ⟨h1, h2, h3, h4⟩
theorem Seed.new_ok (n : Int) : (Seed.new n).ok := by
  obtain ⟨h1, h2⟩ := wrap_b n
  exact ⟨h1, h2, by show (0 : Int) ≤ 11400714819323198485; decide, by show (11400714819323198485 : Int) < 18446744073709551616; decide⟩
theorem Seed.below_b (s : Seed) {n : Int} (h : 1 ≤ n) : 0 ≤ s.below n ∧ s.below n < n := by
  unfold Seed.below
  have h1 := mixZ_b s.next.st
  unfold Seed.out
  obtain ⟨q, hq⟩ : ∃ q, q = mixZ s.next.st / 4294967296 := ⟨_, rfl⟩
  rw [← hq]
  have hq0 : 0 ≤ q := by omega
  have hq1 : q ≤ 4294967295 := by omega
  refine ⟨Int.ediv_nonneg (Int.mul_nonneg hq0 (by omega)) (by decide), Int.ediv_lt_of_lt_mul (by decide) ?_⟩
  have := Int.mul_le_mul_of_nonneg_right hq1 (show 0 ≤ n by omega)
  omega
end Go.Mine.Desk
namespace Go.Proofs.YtalbllijahiiiaaGreatDoor
open Go.RowKit Go.Mine Go.Mine.Desk

abbrev seedV (s : Seed) : Value := .agg #[.int .u64 s.st, .int .u64 s.ga]
theorem mix_any (z : Int) (hz : 0 ≤ z ∧ z < 18446744073709551616) (w : World) : Calls Tryz.prog 162 #[.int .u64 z] w fun e w' => e = .returned (.int .u64 (mixZ z)) ∧ w' = w := by
  have h1 := hz.1
  have h2 := hz.2
  go_enter Tryz.func162, Tryz.ntmps162
  go_wp2_with fail
  go_ret
  exact ⟨rfl, rfl⟩
theorem new_any (n : Int) (w : World) : Calls Tryz.prog 121 #[.int .i64 n] w fun e w' => e = .returned (seedV (Seed.new n)) ∧ Below w.heap.size w w' := by
  have HB := Lib.hid (((Below.refl w.heap.size w).alloc (Nat.le_refl _) (.cells #[.int .u64 0, .int .u64 0] 87)))
  go_enter Tryz.func121, Tryz.ntmps121
  go_wp2_with fail
  refine bodyPost_ret (v := .agg #[.int .u64 (IntKind.u64.wrap n), .int .u64 11400714819323198485]) (by simp [results, Tryz.results121, go_sem]) rfl ⟨rfl, ?_⟩
  exact (Below.refl _ _).alloc (Nat.le_refl _) _
theorem next_any (st ga : Int) (hs : (Seed.mk st ga).ok) (w : World) : Calls Tryz.prog 145 #[.agg #[.int .u64 st, .int .u64 ga]] w fun e w' => e = .returned (.tuple #[.int .u64 (Seed.mk st ga).out, seedV (Seed.mk st ga).next]) ∧ Below w.heap.size w w' := by
  obtain ⟨h1, h2, h3, h4⟩ := hs
  go_enter Tryz.func145, Tryz.ntmps145
  go_wp2_with fail
  go_region_with (go_at_call 162; refine (mix_any _ (wrap_b _) _).mono ?_; rintro e w' ⟨rfl, rfl⟩)
  all_goals
    (try go_wp2)
    refine bodyPost_ret (v := .tuple #[.int .u64 (mixZ (IntKind.u64.wrap (st + ga))), .agg #[.int .u64 (IntKind.u64.wrap (st + ga)), .int .u64 ga]]) (by simp [results, Tryz.results145, go_sem]) rfl ⟨rfl, ?_⟩
    exact (((Below.refl w.heap.size w).alloc (Nat.le_refl _) _).alloc (by simp) _).drew

set_option maxHeartbeats 1000000 in
theorem split_any (st ga : Int) (hs : (Seed.mk st ga).ok) (w : World) : Calls Tryz.prog 122 #[.agg #[.int .u64 st, .int .u64 ga]] w fun e w' => e = .returned (.tuple #[seedV (Seed.mk st ga).left, seedV (Seed.mk st ga).own]) ∧ Below w.heap.size w w' := by
  obtain ⟨s1, hs1⟩ : ∃ s1, s1 = (Seed.mk st ga).next := ⟨_, rfl⟩
  obtain ⟨s2, hs2⟩ : ∃ s2, s2 = s1.next := ⟨_, rfl⟩
  obtain ⟨o1, ho1⟩ : ∃ o1, o1 = (Seed.mk st ga).out := ⟨_, rfl⟩
  obtain ⟨o2, ho2⟩ : ∃ o2, o2 = s1.out := ⟨_, rfl⟩
  have HN1 := Lib.hid (fun w => next_any st ga hs w)
  have HN2 := Lib.hid (fun w => next_any s1.st s1.ga (by rw [hs1]; exact Seed.next_ok hs) w)
  rw [← hs1, ← ho1] at HN1
  rw [show Seed.mk s1.st s1.ga = s1 from rfl, ← hs2, ← ho2] at HN2
  have HRES := Lib.hid (show (Seed.mk st ga).left = s2 ∧ (Seed.mk st ga).own = ⟨o1, bits .or .u64 o2 1⟩ from ⟨by rw [hs2, hs1]; rfl, by rw [ho1, ho2, hs1]; rfl⟩)
  obtain ⟨a1, b1⟩ := s1
  obtain ⟨a2, b2⟩ := s2
  clear hs hs1 hs2 ho1 ho2
  obtain ⟨w0, hw0⟩ : ∃ w0, w0 = ((w.alloc (.cells #[.int .u64 st, .int .u64 ga] 87)).alloc (.cells #[.int .u64 0, .int .u64 0] 87)).alloc (.cells #[.int .u64 0, .int .u64 0] 87) := ⟨_, rfl⟩
  have hb0 : Below w.heap.size w w0 := by rw [hw0]; exact (((Below.refl w.heap.size w).alloc (Nat.le_refl _) _).alloc (by simp) _).alloc (by simp; omega) _
  have k0 : Blk w0 w.heap.size 87 #[.int .u64 st, .int .u64 ga] := by rw [hw0]; exact ((Blk.new _ _ _).alloc _).alloc _
  have k1 : Blk w0 (w.heap.size + 1) 87 #[.int .u64 0, .int .u64 0] := by rw [hw0]; exact (show Blk ((w.alloc (.cells #[.int .u64 st, .int .u64 ga] 87)).alloc (.cells #[.int .u64 0, .int .u64 0] 87)) (w.heap.size + 1) _ _ by have := Blk.new (w.alloc (.cells #[.int .u64 st, .int .u64 ga] 87)) 87 #[.int .u64 0, .int .u64 0]; simpa using this).alloc _
  have k2 : Blk w0 (w.heap.size + 1 + 1) 87 #[.int .u64 0, .int .u64 0] := by rw [hw0]; have := Blk.new ((w.alloc (.cells #[.int .u64 st, .int .u64 ga] 87)).alloc (.cells #[.int .u64 0, .int .u64 0] 87)) 87 #[.int .u64 0, .int .u64 0]; simpa using this
  have HK := Lib.hid (And.intro hb0 (And.intro k0 (And.intro k1 k2)))
  have HC1 := Lib.hid (HN1.out w0)
  rw [hw0] at HC1
  have HW0 := Lib.hid hw0
  obtain ⟨B, hB⟩ : ∃ B, w.heap.size = B := ⟨_, rfl⟩
  clear hb0 k0 k1 k2 hw0 HN1
  go_enter Tryz.func122, Tryz.ntmps122
  go_wp2_with fail
  refine HC1.out.mono ?_
  clear HC1
  rintro e w1 ⟨rfl, hb1⟩
  rw [← HW0.out] at hb1
  have hb1' := HK.out.1.trans (hb1.mono HK.out.1.size)
  have k0 := HK.out.2.1.below hb1
  have k1 := HK.out.2.2.1.below hb1
  have k2 := HK.out.2.2.2.below hb1
  rw [hB] at k0 k1 k2
  have c00 := k0.cell 0
  have c01 := k0.cell 1
  have f00 := k0.froz 0
  have f01 := k0.froz 1
  have k0' := (k0.set 0 (.int .u64 a1)).set 1 (.int .u64 b1)
  have k1' := (k1.other B 0 (by omega) (.int .u64 a1)).other B 1 (by omega) (.int .u64 b1)
  have k2' := (k2.other B 0 (by omega) (.int .u64 a1)).other B 1 (by omega) (.int .u64 b1)
  have hb1'' : Below w.heap.size w ((w1.setCell ⟨B, 0, none⟩ (.int .u64 a1)).setCell ⟨B, 1, none⟩ (.int .u64 b1)) := (hb1'.setCell (by simp; omega) _).setCell (by simp; omega) _
  have HK1 := Lib.hid (And.intro hb1'' (And.intro k0' (And.intro k1' k2')))
  clear hb1 hb1' k0 k1 k2 k0' k1' k2' hb1'' HK
  go_wp2_with fail
  refine (HN2.out _).mono ?_
  rintro e w2 ⟨rfl, hb2⟩
  have hb2' := HK1.out.1.trans (hb2.mono HK1.out.1.size)
  have k0 := HK1.out.2.1.below hb2
  have k1 := HK1.out.2.2.1.below hb2
  have k2 := HK1.out.2.2.2.below hb2
  have d00 := k0.cell 0
  have d01 := k0.cell 1
  have g00 := k0.froz 0
  have g01 := k0.froz 1
  have d10 := k1.cell 0
  have d11 := k1.cell 1
  have g10 := k1.froz 0
  have g11 := k1.froz 1
  have d20 := k2.cell 0
  have d21 := k2.cell 1
  have g20 := k2.froz 0
  have g21 := k2.froz 1
  have HB2 := Lib.hid hb2'
  clear hb2 hb2' k0 k1 k2 c00 c01 f00 f01 HK1
  go_wp2_with fail
  refine bodyPost_ret (v := .tuple #[.agg #[.int .u64 a2, .int .u64 b2], .agg #[.int .u64 o1, .int .u64 (bits .or .u64 o2 1)]]) (by simp [results, Tryz.results122, go_sem, d10, d11, d20, d21]) rfl ⟨?_, ?_⟩
  · rw [HRES.out.1, HRES.out.2]
  · rw [hB]
    have h := HB2.out
    rw [hB] at h
    exact (((((h.setCell (by simp) _).setCell (by simp) _).setCell (by simp) _).setCell (by simp) _).setCell (by simp; omega) _).setCell (by simp; omega) _

set_option maxHeartbeats 1000000 in
theorem below_any (st ga : Int) (hs : (Seed.mk st ga).ok) (n : Int) (hn : 1 ≤ n ∧ n ≤ 1001) (w : World) : Calls Tryz.prog 147 #[.agg #[.int .u64 st, .int .u64 ga], .int .i64 n] w fun e w' => e = .returned (.tuple #[.int .i64 ((Seed.mk st ga).below n), seedV (Seed.mk st ga).next, .nilIface]) ∧ Below w.heap.size w w' := by
  obtain ⟨s1, hs1⟩ : ∃ s1, s1 = (Seed.mk st ga).next := ⟨_, rfl⟩
  obtain ⟨o1, ho1⟩ : ∃ o1, o1 = (Seed.mk st ga).out := ⟨_, rfl⟩
  have hob : 0 ≤ o1 ∧ o1 < 18446744073709551616 := by rw [ho1]; exact mixZ_b _
  have HN1 := Lib.hid (fun w => next_any st ga hs w)
  rw [← hs1, ← ho1] at HN1
  have HRES := Lib.hid (show (Seed.mk st ga).next = s1 ∧ (Seed.mk st ga).below n = o1 / 4294967296 * n / 4294967296 from ⟨hs1.symm, by rw [ho1]; rfl⟩)
  obtain ⟨a1, b1⟩ := s1
  clear hs hs1 ho1
  obtain ⟨w0, hw0⟩ : ∃ w0, w0 = (w.alloc (.cells #[.int .u64 st, .int .u64 ga] 87)).alloc (.cells #[.int .u64 0, .int .u64 0] 87) := ⟨_, rfl⟩
  have hb0 : Below w.heap.size w w0 := by rw [hw0]; exact ((Below.refl w.heap.size w).alloc (Nat.le_refl _) _).alloc (by simp) _
  have k0 : Blk w0 w.heap.size 87 #[.int .u64 st, .int .u64 ga] := by rw [hw0]; exact (Blk.new _ _ _).alloc _
  have k1 : Blk w0 (w.heap.size + 1) 87 #[.int .u64 0, .int .u64 0] := by rw [hw0]; have := Blk.new (w.alloc (.cells #[.int .u64 st, .int .u64 ga] 87)) 87 #[.int .u64 0, .int .u64 0]; simpa using this
  have HK := Lib.hid (And.intro hb0 (And.intro k0 k1))
  have HC1 := Lib.hid (HN1.out w0)
  rw [hw0] at HC1
  have HW0 := Lib.hid hw0
  obtain ⟨B, hB⟩ : ∃ B, w.heap.size = B := ⟨_, rfl⟩
  have hd1 : decide (n < 1) = false := by rw [decide_eq_false_iff_not]; omega
  have hd2 : decide (2147483647 < n) = false := by rw [decide_eq_false_iff_not]; omega
  have h1 := hn.1
  have h2 := hn.2
  obtain ⟨q, hq⟩ : ∃ q, q = o1 / 4294967296 := ⟨_, rfl⟩
  have hq0 : 0 ≤ q := by omega
  have hq1 : q ≤ 4294967295 := by omega
  have hqn0 : 0 ≤ q * n := Int.mul_nonneg hq0 (by omega)
  have hqn1 : q * n ≤ 4299262262295 := by
    have h3 := Int.mul_le_mul hq1 h2 (by omega) (by omega : (0 : Int) ≤ 4294967295)
    omega
  have hw1 : IntKind.u64.wrap n = n := by rw [IntKind.wrap_u64]; omega
  have hw2 : IntKind.u64.wrap (q * n) = q * n := by rw [IntKind.wrap_u64]; omega
  have hw3 : IntKind.i64.wrap (q * n / 4294967296) = q * n / 4294967296 := IntWalk.i64_in _ (by omega)
  clear hb0 k0 k1 hw0 HN1 hn
  go_enter Tryz.func147, Tryz.ntmps147
  go_wp2_with fail
  refine HC1.out.mono ?_
  clear HC1
  rintro e w1 ⟨rfl, hb1⟩
  rw [← HW0.out] at hb1
  have hb1' := HK.out.1.trans (hb1.mono HK.out.1.size)
  have k0 := HK.out.2.1.below hb1
  have k1 := HK.out.2.2.below hb1
  rw [hB] at k0 k1
  have c00 := k0.cell 0
  have c01 := k0.cell 1
  have f00 := k0.froz 0
  have f01 := k0.froz 1
  have c10 := k1.cell 0
  have c11 := k1.cell 1
  have f10 := k1.froz 0
  have f11 := k1.froz 1
  have k0' := (k0.set 0 (.int .u64 a1)).set 1 (.int .u64 b1)
  have k1' := (k1.other B 0 (by omega) (.int .u64 a1)).other B 1 (by omega) (.int .u64 b1)
  obtain ⟨w2, hw2e⟩ : ∃ w2, w2 = (w1.setCell ⟨B, 0, none⟩ (.int .u64 a1)).setCell ⟨B, 1, none⟩ (.int .u64 b1) := ⟨_, rfl⟩
  rw [← hw2e] at k0' k1'
  have hb2 : Below w.heap.size w w2 := by rw [hw2e]; exact (hb1'.setCell (by simp; omega) _).setCell (by simp; omega) _
  have HK2 := Lib.hid (And.intro hb2 (And.intro k0' k1'))
  have HW2 := Lib.hid hw2e
  rw [← hq] at HRES
  have hq' : o1 / 4294967296 = q := hq.symm
  clear hb1 hb1' k0 k1 HK hq k0' k1' hw2e hb2
  go_wp2_with fail
  rw [← HW2.out]
  have e0 : w2.cell? ⟨B, 0, none⟩ = some (.int .u64 a1) := HK2.out.2.1.cell 0
  have e1 : w2.cell? ⟨B, 1, none⟩ = some (.int .u64 b1) := HK2.out.2.1.cell 1
  have e2 : w2.cell? ⟨B + 1, 0, none⟩ = some (.int .u64 0) := HK2.out.2.2.cell 0
  have e3 : w2.cell? ⟨B + 1, 1, none⟩ = some (.int .u64 0) := HK2.out.2.2.cell 1
  have g2 : w2.frozen? ⟨B + 1, 0, none⟩ = false := HK2.out.2.2.froz 0
  have g3 : w2.frozen? ⟨B + 1, 1, none⟩ = false := HK2.out.2.2.froz 1
  clear c00 c01 f00 f01 c10 c11 f10 f11
  go_region_held3 (fun w' => w'.cell? ⟨B, 0, none⟩ = some (.int .u64 a1) ∧ w'.cell? ⟨B, 1, none⟩ = some (.int .u64 b1)) (go_keep) (fail)
  all_goals
    (try go_wp2)
    refine bodyPost_ret (v := .tuple #[.int .i64 (q * n / 4294967296), .agg #[.int .u64 a1, .int .u64 b1], .nilIface]) (by simp [results, Tryz.results147, go_sem, e2, e3]) rfl ⟨?_, ?_⟩
    · rw [HRES.out.1, HRES.out.2]
    · rw [hB]
      have h := HK2.out.1
      rw [hB] at h
      exact ((h.setCell (by simp) _).setCell (by simp) _).drew
end Go.Proofs.YtalbllijahiiiaaGreatDoor
end

section
namespace Go.Proofs.YtalbllijahiiiaaGreatDoor
open Go.RowKit Go.Mine Go.Mine.Desk

structure Chooser (σ τ : Type) where
  gf : Nat
  caps : Array Value
  I : σ → World → Prop
  own : σ → Nat → Prop
  abs : σ → τ
  step : τ → Int → Except Int (Int × τ)
  lo : Nat
  room : σ → Nat
  keep : ∀ s w w', I s w → (∀ k, own s k → w'.heap[k]? = w.heap[k]?) → (∀ k, k < lo → w'.heap[k]? = w.heap[k]?) → I s w'
  low : ∀ s w, I s w → lo ≤ w.heap.size
  lt : ∀ s w k, I s w → own s k → k < w.heap.size
  enters : ∀ v w, Sem.run Tryz.prog (callFunc gf (#[v] ++ caps)) w = .ok (.enter gf (#[v] ++ caps)) w
def Chooser.Post {σ τ : Type} (C : Chooser σ τ) (s : σ) (m : Int) (f : Int → Value) (w : World) (e : Ending) (w' : World) : Prop :=
  Tch (C.own s) w w' ∧ ((∃ x s', C.step (C.abs s) m = .ok (x, C.abs s') ∧ 0 ≤ x ∧ x ≤ m ∧ e = .returned (f x) ∧ C.I s' w' ∧ C.room s ≤ C.room s' + 1 ∧ ∀ k, C.own s' k → C.own s k ∨ w.heap.size ≤ k) ∨ (∃ c, C.step (C.abs s) m = .error c ∧ e = panics c))
theorem Chooser.Post.ok {σ τ : Type} {C : Chooser σ τ} {s : σ} {m : Int} {f : Int → Value} {w : World} {e : Ending} {w' : World} (h : C.Post s m f w e w') {x : Int} {t' : τ} (hs : C.step (C.abs s) m = .ok (x, t')) : ∃ s', C.abs s' = t' ∧ e = .returned (f x) ∧ (0 ≤ x ∧ x ≤ m ∧ C.room s ≤ C.room s' + 1) ∧ C.I s' w' ∧ (∀ k, C.own s' k → C.own s k ∨ w.heap.size ≤ k) ∧ Tch (C.own s) w w' := by
  obtain ⟨ht, ⟨y, t, h1, h2, h3, h4, h5, h7, h6⟩ | ⟨c, h1, _⟩⟩ := h
  · rw [hs] at h1
    cases h1
    exact ⟨t, rfl, h4, ⟨h2, h3, h7⟩, h5, h6, ht⟩
  · rw [hs] at h1; cases h1
theorem Chooser.Post.err {σ τ : Type} {C : Chooser σ τ} {s : σ} {m : Int} {f : Int → Value} {w : World} {e : Ending} {w' : World} (h : C.Post s m f w e w') {c : Int} (hs : C.step (C.abs s) m = .error c) : e = panics c ∧ Tch (C.own s) w w' := by
  obtain ⟨ht, ⟨y, t, h1, _⟩ | ⟨d, h1, h2⟩⟩ := h
  · rw [hs] at h1; cases h1
  · rw [hs] at h1; cases h1; exact ⟨h2, ht⟩
def Chooser.Does {σ τ : Type} (C : Chooser σ τ) : Prop := ∀ s w m, C.I s w → 0 < C.room s → 0 ≤ m → m ≤ 1000 → Calls Tryz.prog C.gf (#[.int .i64 m] ++ C.caps) w (C.Post s m (fun x => .int .i64 x) w)
theorem Chooser.grow {σ τ : Type} {C : Chooser σ τ} {s : σ} {w w' : World} (h : C.I s w) (hb : Below w.heap.size w w') : C.I s w' := C.keep s w w' h (fun k hk => hb.block k (C.lt s w k h hk)) fun k hk => hb.block k (Nat.lt_of_lt_of_le hk (C.low s w h))

abbrev numV' (z : Int) : Value := .agg #[.bool false, .int .i64 z, .slice none 0 0]
set_option maxHeartbeats 1000000 in
theorem made_int {σ τ : Type} (C : Chooser σ τ) (hC : C.Does) (a b : Int) (ha : near a) (_hb : near b) (hab : a ≤ b ∧ b - a ≤ 1000) (s : σ) (w : World) (hI : C.I s w) (hrm : 0 < C.room s) :
    Calls Tryz.prog 86 #[.func (.func C.gf) #[] C.caps, intG a b] w (C.Post s (b - a) (fun x => numV' (a + x)) w) := by
  obtain ⟨w0, hw0⟩ : ∃ w0, w0 = ((w.alloc (.cells #[.int .i64 2, .int .i64 a, .int .i64 b, .slice none 0 0] 28)).alloc (.cells #[.bool false, .int .i64 0, .slice none 0 0] 53)).alloc (.cells #[.bool true, .int .i64 0, .slice none 0 0] 53) := ⟨_, rfl⟩
  have hb0 : Below w.heap.size w w0 := by rw [hw0]; exact (((Below.refl w.heap.size w).alloc (Nat.le_refl _) _).alloc (by simp) _).alloc (by simp; omega) _
  have k0 : Blk w0 w.heap.size 28 #[.int .i64 2, .int .i64 a, .int .i64 b, .slice none 0 0] := by rw [hw0]; exact ((Blk.new _ _ _).alloc _).alloc _
  have k1 : Blk w0 (w.heap.size + 1) 53 #[.bool false, .int .i64 0, .slice none 0 0] := by rw [hw0]; exact (show Blk ((w.alloc _).alloc (.cells #[.bool false, .int .i64 0, .slice none 0 0] 53)) (w.heap.size + 1) _ _ by have := Blk.new (w.alloc (.cells #[.int .i64 2, .int .i64 a, .int .i64 b, .slice none 0 0] 28)) 53 #[.bool false, .int .i64 0, .slice none 0 0]; simpa using this).alloc _
  have hI0 : C.I s w0 := C.grow hI hb0
  have hr1 : -1073741824 ≤ a ∧ a ≤ 1073741824 := ha
  have hr2 := hr1.1
  have hr3 := hr1.2
  have hr4 : 0 ≤ b - a := by omega
  have hr5 : b - a ≤ 1000 := hab.2
  have hlt : ∀ k, C.own s k → k < w.heap.size := fun k hk => C.lt s w k hI hk
  have hcall := hC s w0.drew (b - a) (C.keep s w0 w0.drew hI0 (fun _ _ => rfl) (fun _ _ => rfl)) hrm hr4 hr5
  have HLOW := Lib.hid (C.low s w hI)
  have HK := Lib.hid (And.intro hb0 (And.intro k0 (And.intro k1 hlt)))
  have c1 : w0.cell? ⟨w.heap.size, 1, none⟩ = some (.int .i64 a) := k0.cell 1
  have c2 : w0.cell? ⟨w.heap.size, 2, none⟩ = some (.int .i64 b) := k0.cell 2
  have HW0 := Lib.hid hw0
  have hent := C.enters
  have hwr : IntKind.i64.wrap (b - a) = b - a := IntWalk.i64_in _ (by omega)
  obtain ⟨B, hB⟩ : ∃ B, w.heap.size = B := ⟨_, rfl⟩
  rw [hB] at c1 c2
  clear hb0 k0 k1 hw0 hI hI0 ha hab hr1 hlt
  cases hst : C.step (C.abs s) (b - a) with
  | error c =>
    have HC := Lib.hid (hcall.mono fun _ _ h => h.err hst)
    have HEND := Lib.hid (show ∀ w9, Tch (C.own s) w0.drew w9 → C.Post s (b - a) (fun x => numV' (a + x)) w (panics c) w9 from fun w9 h => ⟨(Tch.of_below (S := C.own s) HK.out.1).drew.trans h (fun _ h => .inl h), .inr ⟨c, hst, rfl⟩⟩)
    clear hcall hst
    go_enter Tryz.func86, Tryz.ntmps86
    go_wp2_with fail
    rw [← hB, ← HW0.out, hB]
    go_region_dies
    all_goals ((try rw [hwr]); go_at_fn C.gf; refine HC.out.mono ?_; rintro e w9 ⟨rfl, ht9⟩; go_simp; exact body_panics (HEND.out w9 ht9))
  | ok r =>
    obtain ⟨x, t'⟩ := r
    have HC := Lib.hid (hcall.mono fun _ _ h => h.ok hst)
    have HST := Lib.hid hst
    clear hcall hst
    go_enter Tryz.func86, Tryz.ntmps86
    go_wp2_with fail
    rw [← hB, ← HW0.out, hB]
    go_region_held2 (fun w' => w'.cell? ⟨B, 1, none⟩ = some (.int .i64 a) ∧ w'.cell? ⟨B, 2, none⟩ = some (.int .i64 b)) (first | (go_keep; done) | (refine ⟨?_, ?_⟩ <;> assumption))
      (first | ((try rw [hwr]); go_at_fn C.gf; refine HC.out.mono ?_; rintro e w9 ⟨s', hs', rfl, hx9, hI9, ho9, ht9⟩
                have hc9 := HK.out.2.1.drew.touch ht9 (fun h => by have := HK.out.2.2.2 _ h; omega)
                have hd9 := HK.out.2.2.1.drew.touch ht9 (fun h => by have := HK.out.2.2.2 _ h; omega)
                rw [hB] at hc9 hd9
                have e1 : w9.cell? ⟨B, 1, none⟩ = some (.int .i64 a) := hc9.cell 1
                have e2 : w9.cell? ⟨B, 2, none⟩ = some (.int .i64 b) := hc9.cell 2
                have d0 : w9.cell? ⟨B + 1, 0, none⟩ = some (.bool false) := hd9.cell 0
                have d1 : w9.cell? ⟨B + 1, 1, none⟩ = some (.int .i64 0) := hd9.cell 1
                have d2 : w9.cell? ⟨B + 1, 2, none⟩ = some (.slice none 0 0) := hd9.cell 2
                have f0 := hd9.froz 0
                have f1 := hd9.froz 1
                have f2 := hd9.froz 2))
    have hax : IntKind.i64.wrap (a + x) = a + x := IntWalk.i64_in _ (by omega)
    have HD9 := Lib.hid (And.intro hd9 (And.intro hI9 (And.intro ho9 ht9)))
    rw [hax]
    clear hc9 e1 e2 hI9 ho9 ht9 c1 c2
    have hsz0 : w0.heap.size = B + 3 := by rw [HW0.out, ← hB]; simp
    go_wp2_with fail
    refine bodyPost_ret (v := numV' (a + x)) (by simp [results, Tryz.results86, go_sem, d0, d1, d2]) rfl ⟨?_, .inl ⟨x, s', by rw [HST.out, hs'], hx9.1, hx9.2.1, rfl, ?_, hx9.2.2, ?_⟩⟩
    · exact ((((Tch.of_below (S := C.own s) HK.out.1).drew.trans HD9.out.2.2.2 (fun _ h => .inl h)).set (.inr (by simp; omega)) _).set (.inr (by simp; omega)) _).set (.inr (by simp; omega)) _
    · refine C.keep s' w9 _ HD9.out.2.1 (fun k hk => ?_) fun k hk => ?_
      rotate_left
      · have hne : k ≠ B + 1 := by have := HLOW.out; omega
        rw [Below.heap_setCell _ _ _ _ hne, Below.heap_setCell _ _ _ _ hne, Below.heap_setCell _ _ _ _ hne]
      have hne : k ≠ B + 1 := by
        rcases HD9.out.2.2.1 k hk with h | h
        · have := HK.out.2.2.2 k h; omega
        · have : w0.drew.heap.size = w0.heap.size := rfl
          omega
      rw [Below.heap_setCell _ _ _ _ hne, Below.heap_setCell _ _ _ _ hne, Below.heap_setCell _ _ _ _ hne]
    · intro k hk
      rcases HD9.out.2.2.1 k hk with h | h
      · exact .inl h
      · have : w0.drew.heap.size = w0.heap.size := rfl
        exact .inr (by omega)
end Go.Proofs.YtalbllijahiiiaaGreatDoor
end
