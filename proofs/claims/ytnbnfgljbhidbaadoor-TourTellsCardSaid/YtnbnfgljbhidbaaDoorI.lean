/- TourTells' walk. -/
import Derived.Test.YtnbnfgljbhidbaaDoorH
namespace Go.Proofs.YtnbnfgljbhidbaaDoor
open Go.RowKit Go.Mine Go.Mine.Tour Go.Deep
open Go.Mine.Flow (R natE M)

theorem error_same (x : Value) (c : Int) (hx : (x = .nilIface ∧ c = 0) ∨ x = .iface 24 (.int .i64 c)) (w : World) (hg : Laid w) :
    Calls Tryd.prog 9 #[x, .int .i64 c] w fun e w' => e = .returned (.bool true) ∧ Below w.heap.size w w' := by
  have H := told_any x c hx w hg
  go_enter Tryd.func9, Tryd.ntmps9
  go_wp2_with fail
  refine H.mono ?_
  rintro e w' ⟨rfl, hb⟩
  clear H
  go_wp2_with fail
  go_ret
  exact ⟨by simp, hb⟩
theorem ints_nil (w : World) : Calls Tryd.prog 10 #[.slice none 0 0, .slice none 0 0] w fun e w' => e = .returned (.bool true) ∧ Below w.heap.size w w' :=
  (Ints_any [] [] none none 0 0 w (IntsAt.nil _ _ _) (IntsAt.nil _ _ _) (by simp [maxLen])).mono fun e w' ⟨h, n, hn⟩ => ⟨by rw [h]; simp, by rw [hn]; exact below_drewN (Below.refl _ _) _⟩
theorem ints_offs (xs : List Int) (N : Nat) (hN : xs.length = N) (a b : Option Addr) (ca cb : Nat) (w : World) (ha : IntsAt .i64 w a xs) (hb : IntsAt .i64 w b xs) (hl : N ≤ 12) :
    Calls Tryd.prog 10 #[.slice a N ca, .slice b N cb] w fun e w' => e = .returned (.bool true) ∧ Below w.heap.size w w' := by
  subst hN
  exact (Ints_any xs xs a b ca cb w ha hb (by unfold maxLen; omega)).mono fun e w' ⟨h, n, hn⟩ => ⟨by rw [h]; simp, by rw [hn]; exact below_drewN (Below.refl _ _) _⟩

set_option maxHeartbeats 1000000 in
theorem tells_bad (n : Int) (es : List (Int × Int)) (lo : Option Addr) (lc : Nat) (W : World) (hg : Laid W) (hx : PairsAt W lo es) (hl : es.length ≤ maxLen) (hok : ¬ ok n es) :
    Calls Tryd.prog 3 #[.int .i64 n, .slice lo es.length lc] W fun e w' => e = .returned (.bool true) ∧ Below W.heap.size W w' := by
  have HG := Lib.hid hg
  have HX := Lib.hid (show ∀ w, Below W.heap.size W w → PairsAt w lo es from fun w hb => hx.below (Nat.le_refl _) hb)
  have HOK := Lib.hid hok
  have hcc := efault_bad hok
  clear hg hx hok
  rcases hcc with hc | hc
  all_goals
    go_enter Tryd.func3, Tryd.ntmps3
    go_wp2_with fail
    refine (toured_true W).mono ?_
    rintro e w1 ⟨rfl, hb1⟩
    have HB1 := Lib.hid hb1; clear hb1
    have HEF := edgeFault_any n es lo lc w1 (HX.out w1 HB1.out) hl
    rw [hc] at HEF
    go_wp2_with fail
    refine HEF.mono ?_
    rintro e w2 ⟨rfl, rfl⟩
    clear HEF
    have HOF := off_any n es lo lc w1 (HX.out w1 HB1.out) hl
    go_wp2_with fail
    refine HOF.mono ?_
    clear HOF
    rintro e w2 ⟨hp, hb2⟩
    have HB2 := Lib.hid (HB1.out.trans (hb2.mono HB1.out.size)); clear hb2
    rcases hp with ⟨h, _⟩ | ⟨_, rfl⟩
    · exact absurd h HOK.out
    rw [hc]
    go_wp2_with fail
    refine (error_same _ _ (.inr rfl) w2 (HG.out.below HB2.out)).mono ?_
    rintro e w3 ⟨rfl, hb3⟩
    have HB3 := Lib.hid (HB2.out.trans (hb3.mono HB2.out.size)); clear hb3
    go_wp2_with fail
    refine (ints_nil w3).mono ?_
    rintro e w4 ⟨rfl, hb4⟩
    have HB4 := Lib.hid (HB3.out.trans (hb4.mono HB3.out.size)); clear hb4
    have HR := round_any n es lo lc w4 (HX.out w4 HB4.out) hl
    go_wp2_with fail
    refine HR.mono ?_
    clear HR
    rintro e w5 ⟨hp, hb5⟩
    have HB5 := Lib.hid (HB4.out.trans (hb5.mono HB4.out.size)); clear hb5
    rcases hp with ⟨_, rfl⟩ | ⟨h, _⟩ | ⟨h, _⟩
    · rw [hc]
      go_wp2_with fail
      refine (error_same _ _ (.inr rfl) w5 (HG.out.below HB5.out)).mono ?_
      rintro e w6 ⟨rfl, hb6⟩
      have HB6 := Lib.hid (HB5.out.trans (hb6.mono HB5.out.size)); clear hb6
      go_wp2_with fail
      go_ret
      exact ⟨rfl, HB6.out⟩
    · exact absurd h HOK.out
    · exact absurd h HOK.out

set_option maxHeartbeats 2000000 in
theorem tells_ok (N : Nat) (es : List (Int × Int)) (lo : Option Addr) (lc : Nat) (W : World) (hg : Laid W) (hx : PairsAt W lo es) (hl : es.length ≤ maxLen) (hok : ok N es) :
    Calls Tryd.prog 3 #[.int .i64 N, .slice lo es.length lc] W fun e w' => e = .returned (.bool true) ∧ Below W.heap.size W w' := by
  have HG := Lib.hid hg
  have HX := Lib.hid (show ∀ w, Below W.heap.size W w → PairsAt w lo es from fun w hb => hx.below (Nat.le_refl _) hb)
  have HOK := Lib.hid hok
  have hn12 := hok.2.1
  have hef := efault_ok hok
  clear hg hx hok
  go_enter Tryd.func3, Tryd.ntmps3
  go_wp2_with fail
  refine (toured_true W).mono ?_
  rintro e w1 ⟨rfl, hb1⟩
  have HB1 := Lib.hid hb1; clear hb1
  have HEF := edgeFault_any N es lo lc w1 (HX.out w1 HB1.out) hl
  rw [hef] at HEF
  clear hef
  go_wp2_with fail
  refine HEF.mono ?_
  rintro e w2 ⟨rfl, rfl⟩
  clear HEF
  have HOO := offOf_any N es lo lc w1 (HX.out w1 HB1.out) HOK.out
  go_wp2_with fail
  refine HOO.mono ?_
  clear HOO
  rintro e w2 ⟨rfl, ho2, hb2⟩
  have HB2 := Lib.hid (HB1.out.trans (hb2.mono HB1.out.size)); clear hb2
  have HO2 := Lib.hid (IntsAt.of_owns ho2); clear ho2
  have HTO := tours_any N es lo lc w2 (HX.out w2 HB2.out) HOK.out
  go_wp2_with fail
  refine HTO.mono ?_
  clear HTO
  rintro e w3 ⟨hp, hb3⟩
  have HO3 := Lib.hid (HO2.out.below (Nat.le_refl _) hb3)
  have HB3 := Lib.hid (HB2.out.trans (hb3.mono HB2.out.size)); clear hb3 HO2
  have HOF := Lib.hid (off_any N es lo lc w3 (HX.out w3 HB3.out) hl)
  rcases hp with ⟨htp, rfl⟩ | ⟨htp, rfl⟩
  all_goals
    have HTP := Lib.hid htp
    clear htp
    go_wp2_with fail
    refine HOF.out.mono ?_
    clear HOF
    rintro e w4 ⟨hp, hb4⟩
    have HO4 := Lib.hid (HO3.out.below (Nat.le_refl _) hb4)
    have HB4 := Lib.hid (HB3.out.trans (hb4.mono HB3.out.size)); clear hb4 HO3
    rcases hp with ⟨_, g, rfl, ho⟩ | ⟨h, _⟩
    rotate_left
    · exact absurd HOK.out h
    rw [Int.toNat_natCast] at ho
    have HI4 := Lib.hid (IntsAt.of_owns ho); clear ho
    go_wp2_with fail
    refine (error_same .nilIface 0 (.inl ⟨rfl, rfl⟩) w4 (HG.out.below HB4.out)).mono ?_
    rintro e w5 ⟨rfl, hb5⟩
    have HII := Lib.hid (ints_offs (offs es N es.length) N (offs_len _ _ _) (some ⟨g, 0, none⟩) _ N N w5 (HI4.out.below (Nat.le_refl _) hb5) (HO4.out.below (Nat.le_refl _) hb5) (by omega))
    have HB5 := Lib.hid (HB4.out.trans (hb5.mono HB4.out.size)); clear hb5
    go_wp2_with fail
    refine HII.out.mono ?_
    clear HII
    rintro e w6 ⟨rfl, hb6⟩
    have HB6 := Lib.hid (HB5.out.trans (hb6.mono HB5.out.size)); clear hb6
    have HR := Lib.hid (round_any N es lo lc w6 (HX.out w6 HB6.out) hl)
    go_wp2_with fail
    refine HR.out.mono ?_
    clear HR
    rintro e w7 ⟨hp, hb7⟩
    have HB7 := Lib.hid (HB6.out.trans (hb7.mono HB6.out.size)); clear hb7
    unfold RoundPost at hp
    rw [Int.toNat_natCast] at hp
    rcases hp with ⟨h, _⟩ | ⟨_, hb, rfl⟩ | ⟨_, hb, next, out, hend, hcase⟩
  all_goals first
    | exact absurd HOK.out (by assumption)
    | skip
  · exact absurd HTP.out.1 hb
  · have hlen := (hend.reach HOK.out.2.2.2).2 HTP.out.2
    rcases hcase with ⟨h, _⟩ | ⟨_, ao, cap, rfl, _⟩
    · exact absurd hlen h
    · clear hend hlen hb
      go_wp2_with fail
      refine (error_same .nilIface 0 (.inl ⟨rfl, rfl⟩) w7 (HG.out.below HB7.out)).mono ?_
      rintro e w8 ⟨rfl, hb8⟩
      have HB8 := Lib.hid (HB7.out.trans (hb8.mono HB7.out.size)); clear hb8
      go_wp2_with fail
      go_ret
      exact ⟨rfl, HB8.out⟩
  · clear hb
    go_wp2_with fail
    refine (error_same _ 2 (.inr rfl) w7 (HG.out.below HB7.out)).mono ?_
    rintro e w8 ⟨rfl, hb8⟩
    have HB8 := Lib.hid (HB7.out.trans (hb8.mono HB7.out.size)); clear hb8
    go_wp2_with fail
    go_ret
    exact ⟨rfl, HB8.out⟩
  · have hlen := hend.reach HOK.out.2.2.2
    rcases hcase with ⟨_, rfl⟩ | ⟨h, _⟩
    · clear hend hlen hb
      go_wp2_with fail
      refine (error_same _ 2 (.inr rfl) w7 (HG.out.below HB7.out)).mono ?_
      rintro e w8 ⟨rfl, hb8⟩
      have HB8 := Lib.hid (HB7.out.trans (hb8.mono HB7.out.size)); clear hb8
      go_wp2_with fail
      go_ret
      exact ⟨rfl, HB8.out⟩
    · exact absurd ⟨hb, hlen.1 h⟩ HTP.out

theorem tells_any (n : Int) (es : List (Int × Int)) (lo : Option Addr) (lc : Nat) (W : World) (hg : Laid W) (hx : PairsAt W lo es) (hl : es.length ≤ maxLen) :
    Calls Tryd.prog 3 #[.int .i64 n, .slice lo es.length lc] W fun e w' => e = .returned (.bool true) ∧ Below W.heap.size W w' := by
  by_cases hok : ok n es
  · obtain ⟨N, rfl⟩ := Int.eq_ofNat_of_zero_le (show 0 ≤ n by have := hok.1; omega)
    exact tells_ok N es lo lc W hg hx hl hok
  · exact tells_bad n es lo lc W hg hx hl hok
end Go.Proofs.YtnbnfgljbhidbaaDoor
