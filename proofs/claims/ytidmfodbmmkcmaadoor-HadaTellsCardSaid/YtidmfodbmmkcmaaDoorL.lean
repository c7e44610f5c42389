/- assayerref2: So, SignOf, EffectsOf, BackOf; assayersame.Rows of the same rows. -/
import Derived.Test.YtidmfodbmmkcmaaDoorK
import Derived.Test.YtidmfodbmmkcmaaDoorTold
namespace Go.Proofs.YtidmfodbmmkcmaaDoor
open Go.RowKit Go.Mine Go.Mine.Hada

theorem so_any (t i : Nat) (ht : t < 64) (hi : i < 6) (b : Bool) (hb : decide (t / 2 ^ i % 2 = 1) = b) (w : World) :
    Calls Tryd.prog 14 #[.int .i64 t, .int .i64 i] w fun e w' => e = .returned (.bool b) ∧ w = w' := by
  have HB := Lib.hid hb; clear hb
  go_enter Tryd.func14, Tryd.ntmps14
  go_wp2_with fail
  go_ret
  refine ⟨congrArg Ending.returned (congrArg Value.bool ?_), rfl⟩
  rw [← HB.out]
  have H : ∀ t : Nat, t < 64 → ∀ i : Nat, i < 6 → (((t : Int) / 2 ^ i).tmod 2 == 1) = decide (t / 2 ^ i % 2 = 1) := by decide +kernel
  exact H t ht i hi

/-- The sign as the reference finds it. -/
def sgAt (i j : Nat) : Nat → Int
  | 0 => 1
  | k + 1 => if i / 2 ^ k % 2 = 1 ∧ j / 2 ^ k % 2 = 1 then - sgAt i j k else sgAt i j k
theorem sgAt_sg : ∀ i, i < 64 → ∀ j, j < 64 → sgAt i j 6 = sg i j := by decide +kernel
theorem sgAt_one (i j : Nat) : ∀ k, sgAt i j k = 1 ∨ sgAt i j k = -1
  | 0 => .inl rfl
  | k + 1 => by
    have := sgAt_one i j k
    unfold sgAt
    split <;> omega

theorem signOf_any (i j : Nat) (hi : i < 64) (hj : j < 64) (w : World) :
    Calls Tryd.prog 5 #[.int .i64 i, .int .i64 j] w fun e w' => e = .returned (.int .i64 (sg i j)) ∧ w = w' := by
  have HE := Lib.hid (sgAt_sg i hi j hj)
  go_enter Tryd.func5, Tryd.ntmps5
  go_wp2_with fail
  go_loop [5, 6] (fun n kk => ∃ (k : Nat) (s : Int), k ≤ 6 ∧ kk = .int .i64 k ∧ n = .int .i64 s ∧ (s = 1 ∨ s = -1) ∧ RowKit.Hid (s = sgAt i j k)) (fun _ kk => 6 - (intOf kk).toNat)
  case atStart => exact ⟨0, 1, by omega, rfl, rfl, .inl rfl, Lib.hid rfl⟩
  case round =>
    obtain ⟨k, s, hk, rfl, rfl, hs, HS⟩ := hrel
    by_cases hk6 : k < 6
    · have hsn : sgAt i j (k + 1) = if i / 2 ^ k % 2 = 1 ∧ j / 2 ^ k % 2 = 1 then - sgAt i j k else sgAt i j k := rfl
      by_cases h1 : i / 2 ^ k % 2 = 1
      · by_cases h2 : j / 2 ^ k % 2 = 1
        · rw [if_pos ⟨h1, h2⟩] at hsn
          have HN := Lib.hid hsn
          have H1 := Lib.hid (fun w => so_any i k hi hk6 true (by simpa using h1) w)
          have H2 := Lib.hid (fun w => so_any j k hj hk6 true (by simpa using h2) w)
          clear hsn h1 h2
          go_wp2_with fail
          refine (H1.out _).mono ?_
          rintro e w1 ⟨rfl, rfl⟩
          go_wp2_with fail
          refine (H2.out _).mono ?_
          rintro e w1 ⟨rfl, rfl⟩
          go_wp2_with fail
          go_round
          case rel => exact ⟨k + 1, - s, by omega, by go_num, by go_num, by omega, Lib.hid (by rw [HN.out, HS.out])⟩
          case measure => simp [intOf]; omega
        · rw [if_neg (fun h => h2 h.2)] at hsn
          have HN := Lib.hid hsn
          have H1 := Lib.hid (fun w => so_any i k hi hk6 true (by simpa using h1) w)
          have H2 := Lib.hid (fun w => so_any j k hj hk6 false (by simpa using h2) w)
          clear hsn h1 h2
          go_wp2_with fail
          refine (H1.out _).mono ?_
          rintro e w1 ⟨rfl, rfl⟩
          go_wp2_with fail
          refine (H2.out _).mono ?_
          rintro e w1 ⟨rfl, rfl⟩
          go_wp2_with fail
          go_round
          case rel => exact ⟨k + 1, s, by omega, by go_num, rfl, hs, Lib.hid (by rw [HN.out, HS.out])⟩
          case measure => simp [intOf]; omega
      · rw [if_neg (fun h => h1 h.1)] at hsn
        have HN := Lib.hid hsn
        have H1 := Lib.hid (fun w => so_any i k hi hk6 false (by simpa using h1) w)
        clear hsn h1
        go_wp2_with fail
        refine (H1.out _).mono ?_
        rintro e w1 ⟨rfl, rfl⟩
        go_wp2_with fail
        go_round
        case rel => exact ⟨k + 1, s, by omega, by go_num, rfl, hs, Lib.hid (by rw [HN.out, HS.out])⟩
        case measure => simp [intOf]; omega
    · obtain rfl : k = 6 := by omega
      have HF := Lib.hid (show s = sg i j by rw [HS.out, HE.out])
      go_wp2_with fail
      go_ret
      exact ⟨by rw [← HF.out]; rfl, rfl⟩

theorem signOf_q (i j : Nat) (hi : i < 64) (hj : j < 64) (w : World) :
    Calls Tryd.prog 5 #[.int .i64 i, .int .i64 j] w fun e w' => e = .returned (.int .i64 (sg i j)) ∧ w' = w :=
  (signOf_any i j hi hj w).mono fun _ _ ⟨h1, h2⟩ => ⟨h1, h2.symm⟩
/-- The sums. -/
def E (n : Nat) (f : Nat → Int) (i : Nat) : Int := sumN (fun j => sg i j * f j) n
theorem E_step (f : Nat → Int) (i n : Nat) : wrap64 (wrap64 (sumN (fun j => sg i j * f j) n) + wrap64 (sg i n * f n)) = wrap64 (sumN (fun j => sg i j * f j) (n + 1)) := by
  rw [wrap_wrap_add]; rfl
theorem wrap_eq (z : Int) : IntKind.i64.wrap z = wrap64 z := IntWalk.i64_left z
theorem R_succ (h : Nat → Int) (n : Nat) : R h (n + 1) = R h n ++ [.int .i64 (wrap64 (h n))] := by
  unfold R
  rw [List.range_succ, List.map_append]; rfl

set_option maxHeartbeats 1000000 in
theorem effectsOf_any (xs : List Int) (ao : Option Addr) (cap : Nat) (W : World) (hx : IntsAt .i64 W ao xs) (h64 : xs.length ≤ 64) :
    Calls Tryd.prog 9 #[.slice ao xs.length cap] W fun e w' => ∃ v, e = .returned v ∧
      w'.ownsRow W.heap.size 3 1 v xs.length (R (E xs.length fun j => xs.getD j 0) xs.length) ∧ Below W.heap.size W w' := by
  obtain ⟨i0, hi0, hz0, hz1, hz2⟩ := info_parts info3
  have HX := Lib.hid (show ∀ w, Below W.heap.size W w → ∀ j, j < xs.length → ∃ b o, ao = some ⟨b, o, none⟩ ∧ w.cell? ⟨b, o + j, none⟩ = some (.int .i64 (xs.getD j 0)) from fun w hb => hx.below (Nat.le_refl _) hb)
  obtain ⟨f, hf⟩ : ∃ f : Nat → Int, f = fun j => xs.getD j 0 := ⟨_, rfl⟩
  have hfj : ∀ j, xs.getD j 0 = f j := fun j => by rw [hf]
  simp only [hfj] at HX
  rw [← hf]
  clear hf hfj hx
  obtain ⟨n, hn⟩ : ∃ n, n = xs.length := ⟨_, rfl⟩
  rw [← hn] at HX h64 ⊢
  clear hn xs
  go_enter Tryd.func9, Tryd.ntmps9
  go_wp2_with fail
  go_loopw [4, 3] (fun iv v wr => ∃ i : Nat, iv = .int .i64 i ∧ i ≤ n ∧ wr.ownsRow W.heap.size 3 1 v i (R (E n f) i) ∧ Below W.heap.size W wr) (fun iv _ _ => n - (intOf iv).toNat)
  case atStart => exact ⟨0, rfl, by omega, World.ownsRow_nil _ _ _ _, Below.refl _ _⟩
  case round =>
    obtain ⟨i, rfl, hi, hown, hb⟩ := hrel
    by_cases hin : i < n
    · have HC := Lib.hid (HX.out _ hb)
      obtain ⟨w0, hw0⟩ : ∃ w0, w0 = wr := ⟨_, rfl⟩
      subst hw0
      have HOWN := Lib.hid hown
      have HB := Lib.hid hb
      have hsz := hb.size
      clear hown hb
      go_wp2_with fail
      go_loopw [6, 5] (fun jv nv wr => ∃ j nd : Nat, jv = .int .i64 j ∧ nv = .int .i64 (wrap64 (sumN (fun j => sg i j * f j) j)) ∧ j ≤ n ∧ wr = w0.drewN nd) (fun jv _ _ => n - (intOf jv).toNat)
      case atStart => exact ⟨0, 0, rfl, by rw [show sumN (fun j => sg i j * f j) 0 = 0 from rfl, wrap_id 0 (by decide)], by omega, (drewN_zero w0).symm⟩
      case round =>
        obtain ⟨j, nd, rfl, rfl, hj, rfl⟩ := hrel
        by_cases hjn : j < n
        · obtain ⟨b, o, rfl, hc⟩ := HC.out j hjn
          have hc : (w0.drewN nd).cell? ⟨b, o + j, none⟩ = some (.int .i64 (f j)) := hc
          have hst := E_step f i j
          obtain ⟨S, hS⟩ : ∃ S, S = wrap64 (sumN (fun j => sg i j * f j) j) := ⟨_, rfl⟩
          rw [← hS] at hst ⊢
          have HST := Lib.hid hst
          clear hst hS
          have HSG := Lib.hid (fun w => signOf_q i j (by omega) (by omega) w)
          obtain ⟨wq, hwq⟩ : ∃ wq, wq = w0.drewN nd := ⟨_, rfl⟩
          rw [← hwq] at hc ⊢
          have HWQ := Lib.hid hwq
          clear hwq
          go_wp2_with fail
          go_quiet ((go_at_call 5; exact Calls.quiet_of_same (HSG.out _)))
          go_wp2_with fail
          go_roundw
          case rel => exact ⟨j + 1, _, by go_num, by rw [← HST.out], by omega, by rw [HWQ.out]; exact drewN_drewN _ _ _⟩
          case measure => simp [intOf]; omega
        · obtain rfl : j = n := by omega
          have hE : E j f i = sumN (fun x => sg i x * f x) j := rfl
          rw [← hE]
          clear hE
          have hown : (w0.drewN nd).ownsRow W.heap.size 3 1 u3 i (R (E j f) i) := HOWN.out
          have hb := below_drewN HB.out nd
          have HOWN := Lib.hid hown
          have HB := Lib.hid hb
          have hsz : W.heap.size ≤ (w0.drewN nd).heap.size := hsz
          clear hown hb
          obtain ⟨w9, hw9⟩ : ∃ w9, w9 = w0.drewN nd := ⟨_, rfl⟩
          rw [← hw9] at HOWN HB hsz ⊢
          clear hw9
          go_wp2_with (at_builtin; refine wpList_push _ rfl _ _ 22 rfl W.heap.size 3 i0 (.int .i64 0) 1 8 Tryd.underlying22 hi0 hz0 hz1 hz2 rfl (by decide) _ _ _ rfl (HOWN.out.alloc _) ⟨w9.heap.size, 0, none⟩ 1 [.int .i64 (wrap64 (E j f i))] rfl rfl (cell_one_new _ _ _) (one1 _ _) ?c3 ?c4 ?c5 ?_)
          case c3 => unfold maxLen; omega
          case c4 => omega
          case c5 => simp; omega
          intro g cap1 w1 hown1 hg1
          have hb1 := (HB.out.alloc hsz (.cells #[.int .i64 (wrap64 (E j f i))] 3)).grown hg1 (by simp; omega) (fun k hk => (HOWN.out.lt k hk).1)
          rw [← R_succ] at hown1
          clear hg1
          go_wp2_with fail
          go_roundw
          case rel => exact ⟨i + 1, by go_num, by omega, hown1, hb1⟩
          case measure => simp [intOf]; omega
    · obtain rfl : i = n := by omega
      go_wp2_with fail
      go_ret
      exact ⟨_, rfl, hown, hb⟩

/-- What BackOf asks of a place. -/
def fine (n : Nat) (x v : Int) : Prop := (-70368744177664 ≤ x ∧ x ≤ 70368744177664) ∧ v.tmod n = 0 ∧ -1099511627776 ≤ v.tdiv n ∧ v.tdiv n ≤ 1099511627776

theorem tdiv_le (v : Int) (n : Nat) (hn : 0 < n) (hv : -9223372036854775808 ≤ v ∧ v ≤ 9223372036854775807) : (-9223372036854775808 ≤ v.tdiv n ∧ v.tdiv n ≤ 9223372036854775807) ∧ (-9223372036854775808 ≤ v.tdiv n * n ∧ v.tdiv n * n ≤ 9223372036854775807) ∧ (v.tdiv n * n = v ↔ v.tmod n = 0) := by
  have h := Int.mul_tdiv_add_tmod v n
  rw [Int.mul_comm] at h
  rcases Int.le_total 0 v with h0 | h0
  · have h1 := Int.tmod_nonneg (n : Int) h0
    have h2 := Int.tdiv_nonneg h0 (show (0 : Int) ≤ n by omega)
    have h3 : v.tdiv n ≤ v.tdiv n * n := by have := Int.mul_le_mul_of_nonneg_left (show (1 : Int) ≤ n by omega) h2; simpa using this
    omega
  · have h0' : 0 ≤ -v := by omega
    have h1 := Int.tmod_nonneg (n : Int) h0'
    have h2 := Int.tdiv_nonneg h0' (show (0 : Int) ≤ n by omega)
    rw [Int.neg_tmod] at h1
    rw [Int.neg_tdiv] at h2
    have h3 : -(v.tdiv n) ≤ -(v.tdiv n) * n := by have := Int.mul_le_mul_of_nonneg_left (show (1 : Int) ≤ n by omega) h2; simpa only [Int.mul_one] using this
    rw [Int.neg_mul] at h3
    omega

set_option maxHeartbeats 1000000 in
theorem backOf_any (xs : List Int) (ao : Option Addr) (cap : Nat) (W : World) (hx : IntsAt .i64 W ao xs) (h64 : xs.length ≤ 64) (h0 : 0 < xs.length) :
    Calls Tryd.prog 10 #[.slice ao xs.length cap] W fun e w' => Below W.heap.size W w' ∧
      (((∃ j, j < xs.length ∧ ¬ fine xs.length (xs.getD j 0) (wrap64 (E xs.length (fun j => xs.getD j 0) j))) ∧ e = .returned (.tuple #[.slice none 0 0, .bool false])) ∨
       ((∀ j, j < xs.length → fine xs.length (xs.getD j 0) (wrap64 (E xs.length (fun j => xs.getD j 0) j))) ∧ ∃ v, e = .returned (.tuple #[v, .bool true]) ∧
         w'.ownsRow W.heap.size 3 1 v xs.length (R (fun j => (wrap64 (E xs.length (fun j => xs.getD j 0) j)).tdiv xs.length) xs.length))) := by
  obtain ⟨i0, hi0, hz0, hz1, hz2⟩ := info_parts info3
  have HE := Lib.hid (effectsOf_any xs ao cap W hx h64)
  have HX := Lib.hid (show ∀ w, Below W.heap.size W w → ∀ j, j < xs.length → ∃ b o, ao = some ⟨b, o, none⟩ ∧ w.cell? ⟨b, o + j, none⟩ = some (.int .i64 (xs.getD j 0)) from fun w hb => hx.below (Nat.le_refl _) hb)
  obtain ⟨f, hf⟩ : ∃ f : Nat → Int, f = fun j => xs.getD j 0 := ⟨_, rfl⟩
  have hfj : ∀ j, xs.getD j 0 = f j := fun j => by rw [hf]
  simp only [hfj] at HX ⊢
  rw [← hf] at HE
  clear hf hfj hx
  obtain ⟨n, hn⟩ : ∃ n, n = xs.length := ⟨_, rfl⟩
  rw [← hn] at HX HE h64 h0 ⊢
  clear hn xs
  obtain ⟨v, hv⟩ : ∃ v : Nat → Int, v = fun j => wrap64 (E n f j) := ⟨_, rfl⟩
  have hvj : ∀ j, wrap64 (E n f j) = v j := fun j => by rw [hv]
  have hvw : ∀ j, wrap64 (v j) = v j := fun j => by rw [hv]; exact wrap_idem _
  have hvr : ∀ j, -9223372036854775808 ≤ v j ∧ v j ≤ 9223372036854775807 := fun j => by rw [hv]; exact wrap_range _
  simp only [hvj]
  have hR : R (E n f) n = R v n := by
    unfold R
    refine List.map_congr_left fun j _ => ?_
    rw [hvw, hvj]
  rw [hR] at HE
  have HVW := Lib.hid hvw
  have HVR := Lib.hid hvr
  clear hv hvj hR hvw hvr
  go_enter Tryd.func10, Tryd.ntmps10
  go_wp2_with fail
  go_loop [4] (fun iv => ∃ i : Nat, iv = .int .i64 i ∧ i ≤ n ∧ ∀ j, j < i → -70368744177664 ≤ f j ∧ f j ≤ 70368744177664) (fun iv => n - (intOf iv).toNat)
  case atStart => exact ⟨0, rfl, by omega, fun j hj => by omega⟩
  case round =>
    obtain ⟨j, rfl, hj, hall⟩ := hrel
    have HALL := Lib.hid hall; clear hall
    by_cases hjn : j < n
    · obtain ⟨b, o, rfl, hc⟩ := HX.out W (Below.refl _ _) j hjn
      obtain ⟨x, hx⟩ : ∃ x, x = f j := ⟨_, rfl⟩
      rw [← hx] at hc
      have HXX := Lib.hid hx; clear hx
      by_cases h1 : x < -70368744177664
      · go_wp2_with fail
        go_ret2
        exact ⟨Below.refl _ _, .inl ⟨⟨j, hjn, fun h => by have := h.1; rw [← HXX.out] at this; omega⟩, rfl⟩⟩
      · by_cases h2 : 70368744177664 < x
        · go_wp2_with fail
          go_ret2
          exact ⟨Below.refl _ _, .inl ⟨⟨j, hjn, fun h => by have := h.1; rw [← HXX.out] at this; omega⟩, rfl⟩⟩
        · go_wp2_with fail
          go_round
          case rel =>
            refine ⟨j + 1, by go_num, by omega, fun i hi => ?_⟩
            by_cases e : i = j
            · subst e; rw [← HXX.out]; omega
            · exact HALL.out i (by omega)
          case measure => simp [intOf]; omega
    · obtain rfl : j = n := by omega
      go_wp2_with fail
      refine HE.out.mono ?_
      rintro e w1 ⟨ve, rfl, hown, hb⟩
      obtain ⟨ea, ec, rfl⟩ := owns_shape hown
      have hsz1 := hb.size
      have HOWN := Lib.hid hown
      have HB := Lib.hid hb
      clear hown hb HE
      go_wp2_with fail
      go_loopw [7, 6] (fun iv ov wr => ∃ t : Nat, iv = .int .i64 t ∧ t ≤ j ∧ (∀ i, i < t → fine j (f i) (v i)) ∧ wr.ownsRow w1.heap.size 3 1 ov t (R (fun i => (v i).tdiv j) t) ∧ Below w1.heap.size w1 wr) (fun iv _ _ => j - (intOf iv).toNat)
      case atStart => exact ⟨0, rfl, by omega, fun i hi => by omega, World.ownsRow_nil _ _ _ _, Below.refl _ _⟩
      case round =>
        obtain ⟨t, rfl, ht, hgood, hown2, hb2⟩ := hrel
        have HG := Lib.hid hgood; clear hgood
        have hsz2 := hb2.size
        by_cases htn : t < j
        · obtain ⟨b, o, rfl, hc⟩ := (IntsAt.of_owns (xs := vals v j) (by rw [← R_vals]; exact HOWN.out)).below (Nat.le_refl _) hb2 t (by rw [vals_len]; exact htn)
          rw [vals_at, if_pos htn, HVW.out] at hc
          obtain ⟨x, hx⟩ : ∃ x, x = v t := ⟨_, rfl⟩
          rw [← hx] at hc
          have hxr := HVR.out t
          rw [← hx] at hxr
          obtain ⟨hd1, hd2, hd3⟩ := tdiv_le x j h0 hxr
          obtain ⟨q, hq⟩ : ∃ q, q = x.tdiv j := ⟨_, rfl⟩
          rw [← hq] at hd1 hd2 hd3
          have HXX := Lib.hid hx; clear hx
          have hfalse : ¬ (x.tmod j = 0 ∧ -1099511627776 ≤ q ∧ q ≤ 1099511627776) → ¬ fine j (f t) (v t) := fun h h' => h (by rw [hq, HXX.out]; exact h'.2)
          have HF := Lib.hid hfalse; clear hfalse
          have htrue : x.tmod j = 0 → -1099511627776 ≤ q → q ≤ 1099511627776 → fine j (f t) (v t) := fun h1 h2 h3 => ⟨HALL.out t htn, by rw [← HXX.out, ← hq]; exact ⟨h1, h2, h3⟩⟩
          have HT := Lib.hid htrue; clear htrue
          have hj0 : ((j : Int) == 0) = false := by rw [beq_eq_false_iff_ne]; omega
          have HD3 := Lib.hid hd3; clear hd3
          have HQ := Lib.hid hq
          have hq' := hq.symm
          clear hq
          have HBT := Lib.hid (HB.out.trans (hb2.mono hsz1))
          have HB2 := Lib.hid hb2
          have HOWN2 := Lib.hid hown2
          clear hown2 hb2
          by_cases hm : q * j = x
          · by_cases h1 : q < -1099511627776
            · go_wp2_with fail
              go_ret2
              exact ⟨HBT.out, .inl ⟨⟨t, htn, HF.out (by omega)⟩, rfl⟩⟩
            · by_cases h2 : 1099511627776 < q
              · go_wp2_with fail
                go_ret2
                exact ⟨HBT.out, .inl ⟨⟨t, htn, HF.out (by omega)⟩, rfl⟩⟩
              · have HM := Lib.hid (HT.out (HD3.out.1 hm) (by omega) (by omega))
                have hwq : wrap64 q = q := wrap_id _ hd1
                have HWQ := Lib.hid hwq
                clear hwq
                go_wp2_with (at_builtin; refine wpList_push _ rfl _ _ 22 rfl w1.heap.size 3 i0 (.int .i64 0) 1 8 Tryd.underlying22 hi0 hz0 hz1 hz2 rfl (by decide) _ _ _ rfl (HOWN2.out.alloc _) ⟨wr.heap.size, 0, none⟩ 1 [.int .i64 q] rfl rfl (cell_one_new _ _ _) (one1 _ _) ?c3 ?c4 ?c5 ?_)
                case c3 => unfold maxLen; omega
                case c4 => omega
                case c5 => first | omega | (simp; omega)
                intro g cap1 w2 hown3 hg1
                have hb3 := (HB2.out.alloc hsz2 (.cells #[.int .i64 q] 3)).grown hg1 (by simp; omega) (fun k hk => (HOWN2.out.lt k hk).1)
                have hown4 : w2.ownsRow w1.heap.size 3 1 (.slice (some ⟨g, 0, none⟩) (t + 1) cap1) (t + 1) (R (fun i => (v i).tdiv j) (t + 1)) := by
                  rw [R_succ]
                  have e : wrap64 ((v t).tdiv j) = q := by rw [← HXX.out, ← HQ.out]; exact HWQ.out
                  rw [e]
                  exact hown3
                clear hg1 hown3
                go_wp2_with fail
                go_roundw
                case rel =>
                  refine ⟨t + 1, by go_num, by omega, fun i hi => ?_, hown4, hb3⟩
                  by_cases e : i = t
                  · subst e; exact HM.out
                  · exact HG.out i (by omega)
                case measure => simp [intOf]; omega
          · have HN := Lib.hid (show ¬ x.tmod j = 0 from fun h => hm (HD3.out.2 h))
            go_wp2_with fail
            go_ret2
            exact ⟨HBT.out, .inl ⟨⟨t, htn, HF.out (fun h => HN.out h.1)⟩, rfl⟩⟩
        · obtain rfl : t = j := by omega
          have HO := Lib.hid (owns_mono hown2 hsz1)
          have HBT := Lib.hid (HB.out.trans (hb2.mono hsz1))
          clear hown2 hb2
          go_wp2_with fail
          go_ret2
          exact ⟨HBT.out, .inr ⟨HG.out, _, rfl, HO.out⟩⟩

theorem ints_quiet (r : List Int) (a b : Option Addr) (ca cb : Nat) (w : World) (n : Nat) (ha : IntsAt .i64 w a r) (hb : IntsAt .i64 w b r) (hl : r.length ≤ maxLen) :
    Calls Tryd.prog 12 #[.slice a r.length ca, .slice b r.length cb] (w.drewN n) fun e w' => e = .returned (.bool true) ∧ ∃ m, w' = (w.drewN n).drewN m :=
  (Ints_any r r a b ca cb (w.drewN n) (ha.drewN n) (hb.drewN n) hl).mono fun e w' ⟨h, hn⟩ => ⟨by rw [h]; simp, hn⟩
/-- Rows of the same rows. -/
theorem rows_nil (W : World) : Calls Tryd.prog 8 #[.slice none 0 0, .slice none 0 0] W fun e w' => e = .returned (.bool true) ∧ W = w' := by
  go_enter Tryd.func8, Tryd.ntmps8
  go_wp2_with fail
  go_loop [5] (fun iv => iv = .int .i64 0) (fun _ => 0)
  case atStart => rfl
  case round =>
    subst hrel
    go_wp2_with fail
    go_ret
    exact ⟨rfl, rfl⟩
set_option maxHeartbeats 400000 in
theorem rows_same (rows : List (List Int)) (B B' : Nat) (ao bo : Option Addr) (ca cb : Nat) (W : World) (ha : RowsOwn .i64 W B 22 (.slice ao rows.length ca) rows) (hb : RowsOwn .i64 W B' 22 (.slice bo rows.length cb) rows) (hl : rows.length ≤ maxLen) (hrl : ∀ r ∈ rows, r.length ≤ maxLen) :
    Calls Tryd.prog 8 #[.slice ao rows.length ca, .slice bo rows.length cb] W fun e w' => e = .returned (.bool true) ∧ Below W.heap.size W w' := by
  unfold maxLen at hl
  have hne : ((rows.length : Int) != (rows.length : Int)) = false := by simp
  have HA := Lib.hid ha
  have HB := Lib.hid hb
  have HRL := Lib.hid hrl
  clear ha hb hrl
  go_enter Tryd.func8, Tryd.ntmps8
  go_wp2_with fail
  go_loopw [5] (fun iv wr => ∃ i nd : Nat, iv = .int .i64 i ∧ i ≤ rows.length ∧ wr = W.drewN nd) (fun iv _ => rows.length - (intOf iv).toNat)
  case atStart => exact ⟨0, 0, rfl, by omega, (drewN_zero W).symm⟩
  case round =>
    obtain ⟨i, nd, rfl, hi, rfl⟩ := hrel
    by_cases hil : i < rows.length
    · obtain ⟨g1, r1, c1, rfl, hc1, hi1⟩ := HA.out.cell hil
      obtain ⟨g2, r2, c2, rfl, hc2, hi2⟩ := HB.out.cell hil
      have hm : rows.getD i [] ∈ rows := by simp [hil]
      have hI := fun n => ints_quiet (rows.getD i []) r1 r2 c1 c2 (W.drewN nd) n (hi1.drewN nd) (hi2.drewN nd) (HRL.out _ hm)
      have hc1 : (W.drewN nd).cell? ⟨g1, i, none⟩ = some (.slice r1 (rows.getD i []).length c1) := hc1
      have hc2 : (W.drewN nd).cell? ⟨g2, i, none⟩ = some (.slice r2 (rows.getD i []).length c2) := hc2
      obtain ⟨r, hr⟩ : ∃ r, r = rows.getD i [] := ⟨_, rfl⟩
      rw [← hr] at hc1 hc2 hI
      obtain ⟨wq, hwq⟩ : ∃ wq, wq = W.drewN nd := ⟨_, rfl⟩
      rw [← hwq] at hc1 hc2 hI ⊢
      have HWQ := Lib.hid hwq
      have HI := Lib.hid hI
      clear hr hI hi1 hi2 hm hwq
      go_wp2_with fail
      go_quiet ((go_at_call 12; exact Calls.quiet_of (HI.out _)))
      go_wp2_with fail
      go_roundw
      case rel => exact ⟨i + 1, _, by go_num, by omega, by rw [HWQ.out]; exact drewN_drewN _ _ _⟩
      case measure => simp [intOf]; omega
    · go_wp2_with fail
      go_ret
      exact ⟨rfl, below_drewN (Below.refl _ _) _⟩
end Go.Proofs.YtidmfodbmmkcmaaDoor
