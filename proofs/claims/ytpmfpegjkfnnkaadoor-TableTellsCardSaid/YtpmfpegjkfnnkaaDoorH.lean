/- TableTells' walk. -/
import Derived.Test.YtpmfpegjkfnnkaaDoorG
import Derived.Deep.RegionHeld3
import Derived.Deep.CutRange
namespace Go.Proofs.YtpmfpegjkfnnkaaDoor
open Go.RowKit Go.Mine Go.Mine.Table Go.Deep

/-- A row of numbers of the call's own, by whatever name. -/
def OwnIs (w : World) (base : Nat) (v0 : Value) (xs : List Int) : Prop := ∃ v, v = v0 ∧ w.ownsRow base 3 1 v xs.length (xs.map (Value.int .i64))

set_option maxHeartbeats 4000000 in
set_option maxRecDepth 100000 in
theorem tells_bad (n t : Int) (rs : List Rl) (lo : Option Addr) (lc : Nat) (W : World) (hg : Laid W) (hx : RulesAt W lo rs) (hml : rs.length ≤ maxLen) (hno : ¬ tok n (rs.map Rl.when)) :
    Calls Tryd.prog 5 #[.int .i64 n, .slice lo rs.length lc, .int .i64 t] W fun e w' => e = .returned (.bool true) ∧ Below W.heap.size W w' := by
  have HG := Lib.hid hg
  have HX := Lib.hid (show ∀ w, Below W.heap.size W w → RulesAt w lo rs from fun w hb => hx.below (Nat.le_refl _) hb)
  have HML := Lib.hid hml
  have hc := tfault_bad hno
  obtain ⟨c, hce⟩ : ∃ c, c = tfault n (rs.map Rl.when) := ⟨_, rfl⟩
  have HCK := Lib.hid (show ∀ w, Below W.heap.size W w → Calls Tryd.prog 15 #[.int .i64 n, .slice lo rs.length lc] w (fun e w' => e = .returned (.iface 32 (.int .i64 c)) ∧ Below w.heap.size w w') from fun w hb => (tcheck_any n rs lo lc w (HX.out w hb) hml).mono fun e w' ⟨h, hb'⟩ => ⟨by
    rcases h with ⟨h, _⟩ | ⟨_, h⟩
    · exact absurd h hno
    · rw [h, hce], hb'⟩)
  have HWH := Lib.hid (show ∀ w, Below W.heap.size W w → Calls Tryd.prog 8 #[.int .i64 n, .slice lo rs.length lc, .int .i64 t] w (fun e w' => e = .returned (.tuple #[.int .i64 0, .iface 32 (.int .i64 c)]) ∧ Below w.heap.size w w') from fun w hb => (which_any n t rs lo lc w (HX.out w hb) hml).mono fun e w' ⟨h, hb'⟩ => ⟨by
    rcases h with ⟨_, h⟩ | ⟨h, _⟩ | ⟨h, _⟩ | ⟨h, _⟩
    · rw [h, hce]
    all_goals exact absurd h hno, hb'⟩)
  have HHO := Lib.hid (show ∀ w, Below W.heap.size W w → Calls Tryd.prog 7 #[.int .i64 n, .slice lo rs.length lc] w (fun e w' => e = .returned (.tuple #[.slice none 0 0, .iface 32 (.int .i64 c)]) ∧ Below w.heap.size w w') from fun w hb => (holes_any n rs lo lc w (HX.out w hb) hml).mono fun e w' ⟨h, hb'⟩ => ⟨by
    rcases h with ⟨_, h⟩ | ⟨h, _⟩
    · rw [h, hce]
    · exact absurd h hno, hb'⟩)
  have HCL := Lib.hid (show ∀ w, Below W.heap.size W w → Calls Tryd.prog 12 #[.int .i64 n, .slice lo rs.length lc] w (fun e w' => e = .returned (.tuple #[.int .i64 0, .int .i64 0, .iface 32 (.int .i64 c)]) ∧ Below w.heap.size w w') from fun w hb => (clash_any n rs lo lc w (HX.out w hb) hml).mono fun e w' ⟨h, hb'⟩ => ⟨by
    rcases h with ⟨_, h⟩ | ⟨h, _⟩ | ⟨h, _⟩
    · rw [h, hce]
    all_goals exact absurd h hno, hb'⟩)
  have HRF := Lib.hid (show ∀ w, Below W.heap.size W w → Calls Tryd.prog 14 #[.int .i64 n, .slice lo rs.length lc] w (fun e w' => e = .returned (.int .i64 c) ∧ w = w') from fun w hb => (rulefault_any n rs lo lc w (HX.out w hb) hml).mono fun e w' ⟨h, hb'⟩ => ⟨by rw [h, hce], hb'⟩)
  rw [← hce] at hc
  clear hx hg hml hno hce
  rcases hc with rfl | rfl | rfl
  all_goals
    go_enter Tryd.func5, Tryd.ntmps5
    go_wp2_with fail
    refine (ruled_true W).mono ?_
    rintro e w1 ⟨rfl, hb1⟩
    have HB1 := Lib.hid hb1
    clear hb1
    go_wp2_with fail
    refine (HRF.out w1 HB1.out).mono ?_
    rintro e w' ⟨rfl, rfl⟩
    go_wp2_with fail
    refine (HCK.out w1 HB1.out).mono ?_
    rintro e w2 ⟨rfl, hb⟩
    have HB2 := Lib.hid (HB1.out.trans (hb.mono HB1.out.size))
    clear hb
    go_wp2_with fail
    refine (error_same _ _ (.inr rfl) w2 (HG.out.below HB2.out)).mono ?_
    rintro e w3 ⟨rfl, hb⟩
    have HB3 := Lib.hid (HB2.out.trans (hb.mono HB2.out.size))
    clear hb
    go_wp2_with fail
    refine (HWH.out w3 HB3.out).mono ?_
    rintro e w4 ⟨rfl, hb⟩
    have HB4 := Lib.hid (HB3.out.trans (hb.mono HB3.out.size))
    clear hb
    go_wp2_with fail
    refine (error_same _ _ (.inr rfl) w4 (HG.out.below HB4.out)).mono ?_
    rintro e w5 ⟨rfl, hb⟩
    have HB5 := Lib.hid (HB4.out.trans (hb.mono HB4.out.size))
    clear hb
    go_wp2_with fail
    refine (HHO.out w5 HB5.out).mono ?_
    rintro e w6 ⟨rfl, hb⟩
    have HB6 := Lib.hid (HB5.out.trans (hb.mono HB5.out.size))
    clear hb
    go_wp2_with fail
    refine (error_same _ _ (.inr rfl) w6 (HG.out.below HB6.out)).mono ?_
    rintro e w7 ⟨rfl, hb⟩
    have HB7 := Lib.hid (HB6.out.trans (hb.mono HB6.out.size))
    clear hb
    go_wp2_with fail
    refine (Ints_any [] [] none none 0 0 w7 (IntsAt.nil _ _ _) (IntsAt.nil _ _ _) (Nat.zero_le _)).mono ?_
    rintro e w8 ⟨rfl, nq, rfl⟩
    have HB8 := Lib.hid (show Below W.heap.size W (w7.drewN nq) from below_drewN HB7.out nq)
    go_wp2_with fail
    refine (HCL.out _ HB8.out).mono ?_
    rintro e w9 ⟨rfl, hb⟩
    have HB9 := Lib.hid (HB8.out.trans (hb.mono HB8.out.size))
    clear hb
    go_wp2_with fail
    refine (error_same _ _ (.inr rfl) w9 (HG.out.below HB9.out)).mono ?_
    rintro e w10 ⟨rfl, hb⟩
    have HB10 := Lib.hid (HB9.out.trans (hb.mono HB9.out.size))
    clear hb
    go_wp2_with fail
    go_ret
    exact ⟨by simp, HB10.out⟩
end Go.Proofs.YtpmfpegjkfnnkaaDoor
