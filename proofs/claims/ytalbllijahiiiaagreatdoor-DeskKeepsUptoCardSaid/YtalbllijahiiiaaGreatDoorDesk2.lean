/- gen.count, Count at a desk's right generators. No conditions but what is read. -/
import Derived.Test.YtalbllijahiiiaaGreatDoorDesk1
namespace Go.Mine.Desk
theorem capped_le (n : Int) : capped n ≤ 1048577 := by unfold capped; omega
theorem capped_nn {n : Int} (h : 0 ≤ n) : 0 ≤ capped n := by unfold capped; omega
theorem cntN_b {c : Int} (h0 : 0 ≤ c) : ∀ k, 0 ≤ (cntN c k).1 ∧ (cntN c k).1 ≤ 1048577 ∧ 0 ≤ (cntN c k).2 ∧ (cntN c k).2 ≤ 1048577
  | 0 => by simp [cntN]
  | k + 1 => by
    obtain ⟨h1, h2, h3, h4⟩ := cntN_b h0 k
    have h5 : 0 ≤ capped ((cntN c k).2 * c) := capped_nn (Int.mul_nonneg h3 h0)
    simp only [cntN]
    exact ⟨capped_nn (by omega), capped_le _, h5, capped_le _⟩
theorem mul_b {p c : Int} (h0 : 0 ≤ p) (h1 : p ≤ 1048577) (h2 : 0 ≤ c) (h3 : c ≤ 1001) : 0 ≤ p * c ∧ p * c ≤ 1049625577 := by
  refine ⟨Int.mul_nonneg h0 h2, ?_⟩
  have := Int.mul_le_mul h1 h3 h2 (by omega : (0 : Int) ≤ 1048577)
  omega
theorem cnt_int (a b : Int) : cnt (.int a b) = b - a + 1 := rfl
theorem cnt_many (n a b : Int) : cnt (.many n a b) = (cntN (b - a + 1) n.toNat).1 := rfl
theorem cnt_b {g : G} (h : g.right) : 1 ≤ cnt g ∧ cnt g ≤ 1048577 := by
  cases g with
  | int a b => obtain ⟨_, _, h1, h2⟩ := h; rw [cnt_int]; omega
  | many n a b =>
    obtain ⟨_, _, _, _, h1, h2⟩ := h
    rw [cnt_many]
    have h3 : ∀ k, 1 ≤ (cntN (b - a + 1) k).1 := by
      intro k
      induction k with
      | zero => simp [cntN]
      | succ k ih =>
        have h5 : 0 ≤ capped ((cntN (b - a + 1) k).2 * (b - a + 1)) := capped_nn (Int.mul_nonneg (cntN_b (by omega) k).2.2.1 (by omega))
        simp only [cntN]
        unfold capped at h5 ⊢
        omega
    exact ⟨h3 _, (cntN_b (by omega) _).2.1⟩
theorem right_near {g : G} (h : g.right) : g.near := by
  cases g with
  | int a b => exact ⟨h.1, h.2.1⟩
  | many n a b => obtain ⟨h1, h2, h3, h4, _⟩ := h; exact ⟨by unfold near; omega, h3, h4⟩
end Go.Mine.Desk
namespace Go.Proofs.YtalbllijahiiiaaGreatDoor
open Go.RowKit Go.Mine Go.Mine.Desk

theorem right_fault {g : G} (h : g.right) : faultG g = 0 := by
  cases g with
  | int a b => obtain ⟨_, _, h1, h2⟩ := h; exact if_pos ⟨h1, h2⟩
  | many n a b => obtain ⟨h1, h2, _, _, h3, h4⟩ := h; exact (if_pos ⟨h1, h2⟩).trans (if_pos ⟨h3, h4⟩)
theorem fault_right {g : G} (hn : g.near) (h : faultG g = 0) : g.right := by
  cases g with
  | int a b =>
    have h : (if a ≤ b ∧ b - a ≤ 1000 then (0 : Int) else 1) = 0 := h
    split at h
    · rename_i h2; exact ⟨hn.1, hn.2, h2.1, h2.2⟩
    · cases h
  | many n a b =>
    have h : (if 0 ≤ n ∧ n ≤ 5 then (if a ≤ b ∧ b - a ≤ 1000 then (0 : Int) else 1) else 1) = 0 := h
    split at h
    · rename_i h1
      split at h
      · rename_i h2; exact ⟨h1.1, h1.2, hn.2.1, hn.2.2, h2.1, h2.2⟩
      · cases h
    · cases h
theorem checkR_any (g : G) (v : Value) (hr : g.right) (w : World) (hv : GenAt w v g) : Calls Tryz.prog 79 #[v] w fun e w' => e = .returned .nilIface ∧ Below w.heap.size w w' := by
  have h := check_any g v (right_near hr) w hv
  rwa [right_fault hr, errV_zero] at h

theorem capped_any (x : Int) (w : World) : Calls Tryz.prog 111 #[.int .i64 x] w fun e w' => e = .returned (.int .i64 (capped x)) ∧ w' = w := by
  go_enter Tryz.func111, Tryz.ntmps111
  go_wp2_with fail
  all_goals
    go_ret
    refine ⟨?_, rfl⟩
    unfold capped
    first
      | rfl
      | (simp; omega)
theorem count_int (a b : Int) (ha : near a) (hb : near b) (w : World) : Calls Tryz.prog 81 #[intG a b] w fun e w' => e = .returned (.int .i64 (b - a + 1)) ∧ Below w.heap.size w w' := by
  have HB := Lib.hid ((Below.refl w.heap.size w).alloc (Nat.le_refl _) (.cells #[.int .i64 2, .int .i64 a, .int .i64 b, .slice none 0 0] 28))
  obtain ⟨h1, h2⟩ : -2147483648 ≤ b - a ∧ b - a ≤ 2147483648 := by unfold near at ha hb; omega
  clear ha hb
  go_enter Tryz.func81, Tryz.ntmps81
  go_wp2_with fail
  go_ret
  exact ⟨rfl, HB.out⟩
set_option maxHeartbeats 1000000 in
theorem count_many (n a b : Int) (gb : Nat) (hr : (G.many n a b).right) (w : World) (hs : SubAt w gb a b) : Calls Tryz.prog 81 #[manyG n gb] w fun e w' => e = .returned (.int .i64 (cnt (.many n a b))) ∧ Below w.heap.size w w' := by
  obtain ⟨w1, hw1⟩ : ∃ w1, w1 = w.alloc (.cells #[.int .i64 4, .int .i64 n, .int .i64 0, .slice (some ⟨gb, 0, none⟩) 1 1] 28) := ⟨_, rfl⟩
  have hb1 : Below w.heap.size w w1 := by rw [hw1]; exact (Below.refl _ _).alloc (Nat.le_refl _) _
  have hr1 : RowAt w1 w.heap.size #[.int .i64 4, .int .i64 n, .int .i64 0, .slice (some ⟨gb, 0, none⟩) 1 1] := by rw [hw1]; exact heap_alloc_new _ _
  have hs1 := hs.on hb1
  obtain ⟨h0, h5, ha, hb, hab, hba⟩ := hr
  have HC := Lib.hid (count_int a b ha hb w1)
  have HR := Lib.hid (And.intro hb1 hr1)
  have s0 := hs1.c0
  have s1 := hs1.c1
  have s2 := hs1.c2
  have s3 := hs1.c3
  rw [hw1] at HC s0 s1 s2 s3
  have HW := Lib.hid hw1
  obtain ⟨c, hc⟩ : ∃ c, c = b - a + 1 := ⟨_, rfl⟩
  rw [← hc] at HC
  rw [cnt_many, ← hc]
  have hc0 : 0 ≤ c := by omega
  have hc1 : c ≤ 1001 := by omega
  obtain ⟨m, rfl⟩ : ∃ m : Nat, n = m := ⟨n.toNat, by omega⟩
  rw [Int.toNat_natCast]
  clear hs hs1 hb1 hr1 hw1 ha hb hc hab hba
  go_enter Tryz.func81, Tryz.ntmps81
  go_wp2_with fail
  refine HC.out.mono ?_
  clear HC
  rintro e w2 ⟨rfl, hb2⟩
  rw [← HW.out] at hb2
  have hr2 := HR.out.2.on hb2
  have c1 := hr2.cell 1
  have HB2 := Lib.hid (HR.out.1.trans (hb2.mono HR.out.1.size))
  clear hb2 hr2 s0 s1 s2 s3
  go_wp2_with fail
  go_loopw [3, 7, 44] (fun nv pv kv wr => ∃ k : Nat, kv = .int .i64 (k : Int) ∧ k ≤ m ∧ nv = .int .i64 (cntN c k).1 ∧ pv = .int .i64 (cntN c k).2 ∧ RowKit.Hid (wr = w2)) (fun _ _ kv _ => m - (intOf kv).toNat)
  case atStart => exact ⟨0, rfl, by omega, rfl, rfl, Lib.hid rfl⟩
  case round =>
    obtain ⟨k, rfl, hk, rfl, rfl, hwr⟩ := hrel
    obtain ⟨hn0, hn1, hp0, hp1⟩ := cntN_b hc0 k
    have hst : cntN c (k + 1) = (capped ((cntN c k).1 + capped ((cntN c k).2 * c)), capped ((cntN c k).2 * c)) := rfl
    have HST := Lib.hid hst
    obtain ⟨x, hx⟩ : ∃ x, x = (cntN c k).1 := ⟨_, rfl⟩
    obtain ⟨p, hp⟩ : ∃ p, p = (cntN c k).2 := ⟨_, rfl⟩
    rw [← hx] at hn0 hn1 HST ⊢
    have HXX := Lib.hid hx
    rw [← hp] at hp0 hp1 HST ⊢
    obtain ⟨hm0, hm1⟩ := mul_b hp0 hp1 hc0 hc1
    clear hst hx hp
    by_cases hlt : k < m
    · have hcp1 := capped_le (p * c)
      have hcp0 := capped_nn hm0
      have HC1 := Lib.hid (fun w => capped_any (p * c) w)
      have HC2 := Lib.hid (fun w => capped_any (x + capped (p * c)) w)
      obtain ⟨y, hy⟩ : ∃ y, y = capped (p * c) := ⟨_, rfl⟩
      rw [← hy] at hcp0 hcp1 HC1 HC2 HST
      obtain ⟨z, hz⟩ : ∃ z, z = p * c := ⟨_, rfl⟩
      rw [← hz] at hm0 hm1 HC1
      clear hy
      go_wp2_with fail
      rw [← hz]
      refine (HC1.out _).mono ?_
      clear HC1
      rintro e w' ⟨rfl, rfl⟩
      clear hz
      go_wp2_with fail
      refine (HC2.out _).mono ?_
      clear HC2
      rintro e w' ⟨rfl, rfl⟩
      go_wp2_with fail
      go_roundw
      case rel => exact ⟨k + 1, by go_num, by omega, by rw [HST.out], by rw [HST.out], hwr⟩
      case measure => simp [intOf]; omega
    · obtain rfl : k = m := by omega
      have HB3 := Lib.hid (show Below w.heap.size w wr by rw [hwr.out]; exact HB2.out)
      clear hwr
      go_wp2_with fail
      go_ret
      rw [← HXX.out]
      exact ⟨rfl, HB3.out⟩
theorem gcount_any (g : G) (v : Value) (hr : g.right) (w : World) (hv : GenAt w v g) : Calls Tryz.prog 81 #[v] w fun e w' => e = .returned (.int .i64 (cnt g)) ∧ Below w.heap.size w w' := by
  cases g with
  | int a b => obtain rfl : v = intG a b := hv; exact count_int a b hr.1 hr.2.1 w
  | many n a b => obtain ⟨gb, rfl, hs⟩ := hv; exact count_many n a b gb hr w hs
theorem GenAt.shape {w : World} {v : Value} {g : G} (h : GenAt w v g) : ∃ k a b ao n c, v = .agg #[.int .i64 k, .int .i64 a, .int .i64 b, .slice ao n c] := by
  cases g with
  | int a b => exact ⟨_, _, _, _, _, _, h⟩
  | many n a b => obtain ⟨gb, h, _⟩ := h; exact ⟨_, _, _, _, _, _, h⟩
/-- What gen.Count tells. -/
def countX (g : G) : Value := if cnt g ≤ 1048576 then .tuple #[.int .i64 (cnt g), .nilIface] else .tuple #[.int .i64 0, .iface 36 (.int .i64 4)]
theorem gCount_any (g : G) (v : Value) (hr : g.right) (w : World) (hv : GenAt w v g) : Calls Tryz.prog 50 #[v] w fun e w' => e = .returned (countX g) ∧ Below w.heap.size w w' := by
  obtain ⟨k, a, b, ao, n, c, hsh⟩ := hv.shape
  obtain ⟨w1, hw1⟩ : ∃ w1, w1 = w.alloc (.cells #[.int .i64 k, .int .i64 a, .int .i64 b, .slice ao n c] 28) := ⟨_, rfl⟩
  have hb1 : Below w.heap.size w w1 := by rw [hw1]; exact (Below.refl _ _).alloc (Nat.le_refl _) _
  have hr1 : RowAt w1 w.heap.size #[.int .i64 k, .int .i64 a, .int .i64 b, .slice ao n c] := by rw [hw1]; exact heap_alloc_new _ _
  have hv1 := hv.on hb1
  subst hsh
  have HC := Lib.hid (checkR_any g _ hr w1 hv1)
  have HR := Lib.hid (And.intro hb1 (And.intro hr1 hv1))
  have HK := Lib.hid (fun w (h : GenAt w (.agg #[.int .i64 k, .int .i64 a, .int .i64 b, .slice ao n c]) g) => gcount_any g _ hr w h)
  rw [hw1] at HC
  have HW := Lib.hid hw1
  obtain ⟨z, hz⟩ : ∃ z, z = cnt g := ⟨_, rfl⟩
  have hcx : countX g = if z ≤ 1048576 then .tuple #[.int .i64 z, .nilIface] else .tuple #[.int .i64 0, .iface 36 (.int .i64 4)] := by rw [hz]; rfl
  rw [← hz] at HK
  rw [hcx]
  clear hb1 hr1 hv1 hw1 hv hz hcx hr
  by_cases hle : z ≤ 1048576
  · have hd : decide (1048576 < z) = false := by rw [decide_eq_false_iff_not]; omega
    rw [if_pos hle]
    go_enter Tryz.func50, Tryz.ntmps50
    go_wp2_with fail
    refine HC.out.mono ?_
    clear HC
    rintro e w2 ⟨rfl, hb2⟩
    rw [← HW.out] at hb2
    have hr2 := HR.out.2.1.on hb2
    have HV2 := Lib.hid (HR.out.2.2.on hb2)
    have s0 := hr2.cell 0
    have s1 := hr2.cell 1
    have s2 := hr2.cell 2
    have s3 := hr2.cell 3
    have HB2 := Lib.hid (HR.out.1.trans (hb2.mono HR.out.1.size))
    clear hb2 hr2
    go_wp2_with fail
    refine (HK.out _ HV2.out).mono ?_
    clear HK
    rintro e w3 ⟨rfl, hb3⟩
    have HB3 := Lib.hid (HB2.out.trans (hb3.mono HB2.out.size))
    clear hb3
    go_wp2_with fail
    go_ret2
    exact ⟨rfl, HB3.out⟩
  · have hd : decide (1048576 < z) = true := by rw [decide_eq_true_iff]; omega
    rw [if_neg hle]
    go_enter Tryz.func50, Tryz.ntmps50
    go_wp2_with fail
    refine HC.out.mono ?_
    clear HC
    rintro e w2 ⟨rfl, hb2⟩
    rw [← HW.out] at hb2
    have hr2 := HR.out.2.1.on hb2
    have HV2 := Lib.hid (HR.out.2.2.on hb2)
    have s0 := hr2.cell 0
    have s1 := hr2.cell 1
    have s2 := hr2.cell 2
    have s3 := hr2.cell 3
    have HB2 := Lib.hid (HR.out.1.trans (hb2.mono HR.out.1.size))
    clear hb2 hr2
    go_wp2_with fail
    refine (HK.out _ HV2.out).mono ?_
    clear HK
    rintro e w3 ⟨rfl, hb3⟩
    have HB3 := Lib.hid (HB2.out.trans (hb3.mono HB2.out.size))
    clear hb3
    go_wp2_with fail
    go_ret2
    exact ⟨rfl, HB3.out⟩
end Go.Proofs.YtalbllijahiiiaaGreatDoor
