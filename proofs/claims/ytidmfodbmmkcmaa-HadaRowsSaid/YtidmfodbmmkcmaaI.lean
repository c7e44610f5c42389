import Derived.Test.YtidmfodbmmkcmaaH
namespace Go.Proofs.Ytidmfodbmmkcmaa
open Go.RowKit Go.Mine Go.Mine.Hada

theorem rowS_at (n i x : Nat) (hx : x < n) : (rowS n i).getD x 0 = sg i x := by simp [rowS, hx]
theorem tabS_at (n k i : Nat) (hi : i < k) : (tabS n k).getD i [] = rowS n i := by simp [tabS, hi]

/-- A place of the table. -/
theorem place (w : World) (g n cap B : Nat) (h : RowsOwn .i64 w B 22 (.slice (some ⟨g, 0, none⟩) n cap) (tabS n n)) (i : Nat) (hi : i < n) :
    ∃ ro rc, w.cell? ⟨g, i, none⟩ = some (.slice ro n rc) ∧ ∀ x, x < n → ∃ b o, ro = some ⟨b, o, none⟩ ∧ w.cell? ⟨b, o + x, none⟩ = some (.int .i64 (sg i x)) := by
  obtain ⟨g', ro, rc, h1, h2, h3⟩ := h.cell (i := i) (by rw [tabS_len]; exact hi)
  simp only [Option.some.injEq, Addr.mk.injEq, and_true] at h1
  subst h1
  rw [tabS_at n n i hi] at h2 h3
  rw [rowS_len] at h2
  refine ⟨ro, rc, h2, fun x hx => ?_⟩
  obtain ⟨b, o, h4, h5⟩ := h3 x (by rw [rowS_len]; exact hx)
  rw [rowS_at n i x hx] at h5
  exact ⟨b, o, h4, h5⟩

set_option maxRecDepth 100000 in
set_option maxHeartbeats 1000000 in
theorem rows_in (k n i j : Nat) (W : World) (hk : k ≤ 6) (hn : n = 2 ^ k) (hi : i < n) (hj : j < n) :
    Calls Try.prog 4 #[.int .i64 k, .int .i64 i, .int .i64 j] W fun e w' => e = .returned (.bool true) ∧ Below W.heap.size W w' := by
  have hn64 := pow_le hk
  rw [← hn] at hn64
  have HS := Lib.hid (rows_sum k n i j hk hn hi hj)
  have HO := Lib.hid (own_sum k n i hk hn hi)
  have HT := Lib.hid (fun w => table_ok k n w hk hn)
  clear hn
  go_enter Try.func4, Try.ntmps4
  go_wp2_with fail
  refine (halved_any W).mono ?_
  rintro e w1 ⟨rfl, hb1⟩
  go_wp2_with fail
  refine (HT.out _).mono ?_
  rintro e w2 ⟨g, cap, rfl, hrows, hb2⟩
  have HB := Lib.hid (hb1.trans (hb2.mono hb1.size))
  have HP := Lib.hid (fun i hi => place w2 g n cap _ hrows i hi)
  clear hrows hb1 hb2
  obtain ⟨ri, ci, hci, hri⟩ := HP.out i hi
  obtain ⟨bi, oi, rfl, _⟩ := hri 0 (by omega)
  have HRI := Lib.hid hri; clear hri
  obtain ⟨rj, cj, hcj, hrj⟩ := HP.out j hj
  obtain ⟨bj, oj, rfl, _⟩ := hrj 0 (by omega)
  have HRJ := Lib.hid hrj; clear hrj
  go_wp2_with fail
  go_loopw [10, 11, 12] (fun s o x wr => ∃ r nq : Nat, x = .int .i64 r ∧ r ≤ n ∧ s = .int .i64 (sumN (fun x => sg i x * sg j x) r) ∧ o = .int .i64 (sumN (sg i) r) ∧ wr = w2.drewN nq) (fun _ _ x _ => n - (intOf x).toNat)
  case atStart => exact ⟨0, 0, rfl, by omega, rfl, rfl, (drewN_zero _).symm⟩
  case round =>
    obtain ⟨r, nq, rfl, hr, rfl, rfl, rfl⟩ := hrel
    have s1 := sumN_le (fun x => sg i x * sg j x) r (fun x hx => by
      rcases sg_one i (by omega) x (by omega) with h1 | h1 <;> rcases sg_one j (by omega) x (by omega) with h2 | h2 <;> simp [h1, h2])
    have s2 := sumN_le (sg i) r (fun x hx => by rcases sg_one i (by omega) x (by omega) with h1 | h1 <;> simp [h1])
    by_cases hrn : r < n
    · obtain ⟨b1, o1, h1, hc1⟩ := HRI.out r hrn
      simp only [Option.some.injEq, Addr.mk.injEq, and_true] at h1
      obtain ⟨rfl, rfl⟩ := h1
      obtain ⟨b2, o2, h2, hc2⟩ := HRJ.out r hrn
      simp only [Option.some.injEq, Addr.mk.injEq, and_true] at h2
      obtain ⟨rfl, rfl⟩ := h2
      obtain ⟨rx, cx, hcx, hrx⟩ := HP.out r hrn
      obtain ⟨bx, ox, rfl, hc3⟩ := hrx i hi
      clear hrx
      rw [sg_comm r i] at hc3
      have t1 := sg_one i (by omega) r (by omega)
      have t2 := sg_one j (by omega) r (by omega)
      have HSS := Lib.hid (show sumN (fun x => sg i x * sg j x) (r + 1) = sumN (fun x => sg i x * sg j x) r + sg i r * sg j r from rfl)
      have HSO := Lib.hid (show sumN (sg i) (r + 1) = sumN (sg i) r + sg i r from rfl)
      obtain ⟨S, hS⟩ : ∃ S, S = sumN (fun x => sg i x * sg j x) r := ⟨_, rfl⟩
      obtain ⟨O, hO⟩ : ∃ O, O = sumN (sg i) r := ⟨_, rfl⟩
      obtain ⟨a, ha⟩ : ∃ a, a = sg i r := ⟨_, rfl⟩
      obtain ⟨c, hc⟩ : ∃ c, c = sg j r := ⟨_, rfl⟩
      rw [← hS] at s1 HSS ⊢
      rw [← hO] at s2 HSO ⊢
      rw [← ha] at hc1 hc3 t1 HSS HSO
      rw [← hc] at hc2 t2 HSS
      clear hS hO ha hc
      rcases t1 with rfl | rfl <;> rcases t2 with rfl | rfl
      all_goals
        go_wp2_with fail
        go_quiet (fail)
        go_wp2_with fail
        go_quiet (fail)
        go_wp2_with fail
        go_roundw
        case rel => exact ⟨r + 1, _, by go_num, by omega, by rw [HSS.out]; try go_num, by rw [HSO.out]; try go_num, rfl⟩
        case measure => simp [intOf]; omega
    · have hrn' : r = n := by omega
      subst hrn'
      clear s1 s2
      rw [HS.out, HO.out]
      by_cases hij : i = j
      · rw [if_pos hij]
        subst hij
        by_cases h0 : i = 0
        · rw [if_pos h0]
          subst h0
          go_wp2_with fail
          go_ret
          exact ⟨by simp, below_drewN HB.out _⟩
        · rw [if_neg h0]
          have e1 : ((i : Int) == 0) = false := by rw [beq_eq_false_iff_ne]; omega
          have e2 : ((0 : Int) == (r : Int)) = false := by rw [beq_eq_false_iff_ne]; omega
          go_wp2_with fail
          go_ret
          exact ⟨by simp, below_drewN HB.out _⟩
      · rw [if_neg hij]
        have hne : ((i : Int) == (j : Int)) = false := by rw [beq_eq_false_iff_ne]; omega
        by_cases h0 : i = 0
        · rw [if_pos h0]
          subst h0
          go_wp2_with fail
          go_ret
          exact ⟨by simp, below_drewN HB.out _⟩
        · rw [if_neg h0]
          go_wp2_with fail
          go_ret
          exact ⟨by simp, below_drewN HB.out _⟩
end Go.Proofs.Ytidmfodbmmkcmaa
