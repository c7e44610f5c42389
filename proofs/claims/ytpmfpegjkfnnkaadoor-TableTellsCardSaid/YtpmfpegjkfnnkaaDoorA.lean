/- ruled(); what two errors tell; TableClash: plain law. -/
import Derived.Test.YtpmfpegjkfnnkaaDoorTable5
import Derived.Test.YtpmfpegjkfnnkaaDoorTold
namespace Go.Proofs.YtpmfpegjkfnnkaaDoor
open Go.RowKit Go.Mine Go.Mine.Table

/-- An error's number. -/
def Num (x : Value) (c : Int) : Prop := (x = .nilIface ∧ c = 0) ∨ x = .iface 32 (.int .i64 c)
theorem told_two (x y : Value) (c d : Int) (hx : Num x c) (hy : Num y d) (w : World) (hg : Laid w) :
    Calls Tryd.prog 13 #[x, y] w fun e w' => e = .returned (.bool (c == d)) ∧ Below w.heap.size w w' := by
  have H := told_any x c hx w hg
  have HG := Lib.hid hg
  have HY := Lib.hid hy
  clear hg hy hx
  go_enter Tryd.func13, Tryd.ntmps13
  go_wp2_with fail
  refine H.mono ?_
  clear H
  rintro e w1 ⟨rfl, hb⟩
  have H2 := told_any y d HY.out w1 (HG.out.below hb)
  have HB := Lib.hid hb
  clear hb
  go_wp2_with fail
  refine H2.mono ?_
  clear H2
  rintro e w2 ⟨rfl, hb⟩
  have HB2 := Lib.hid (HB.out.trans (hb.mono HB.out.size))
  clear hb
  go_wp2_with fail
  go_ret
  exact ⟨rfl, HB2.out⟩
theorem error_is (x : Value) (c d : Int) (hx : Num x c) (w : World) (hg : Laid w) :
    Calls Tryd.prog 9 #[x, .int .i64 d] w fun e w' => e = .returned (.bool (c == d)) ∧ Below w.heap.size w w' := by
  have H := told_any x c hx w hg
  go_enter Tryd.func9, Tryd.ntmps9
  go_wp2_with fail
  refine H.mono ?_
  rintro e w' ⟨rfl, hb⟩
  clear H
  go_wp2_with fail
  go_ret
  exact ⟨rfl, hb⟩

theorem tok_one : tok 1 [[1]] := ⟨1, rfl, by omega, by omega, by simp, fun j hj => by
  have : j = 0 := by simpa using hj
  subst this
  decide⟩
theorem ruled_true (W : World) : Calls Tryd.prog 6 #[] W fun e w' => e = .returned (.bool true) ∧ Below W.heap.size W w' := by
  obtain ⟨w2, hw2⟩ : ∃ w2, w2 = (W.alloc (.cells #[.int .i64 1] 3)).alloc (.cells #[.slice (some ⟨W.heap.size, 0, none⟩) 1 1, .int .i64 7] 35) := ⟨_, rfl⟩
  have hb2 : Below W.heap.size W w2 := by rw [hw2]; exact ((Below.refl _ _).alloc (Nat.le_refl _) _).alloc (by simp) _
  have hx : RulesAt w2 (some ⟨W.heap.size + 1, 0, none⟩) [⟨some ⟨W.heap.size, 0, none⟩, 1, [1], 7⟩] := by
    intro j hj
    obtain rfl : j = 0 := by simpa using hj
    refine ⟨_, 0, rfl, ?_, ?_, ?_, by simp [maxLen]⟩
    · rw [hw2]; simp [go_sem]
    · rw [hw2]; simp [go_sem]
    · intro i hi
      obtain rfl : i = 0 := by simpa using hi
      exact ⟨_, 0, rfl, by rw [hw2]; simp [go_sem]⟩
  have HW := Lib.hid (which_any 1 1 [⟨some ⟨W.heap.size, 0, none⟩, 1, [1], 7⟩] _ 1 w2 hx (by simp [maxLen]))
  have HB2 := Lib.hid hb2
  rw [hw2] at HW HB2
  clear hx hb2 hw2 w2
  go_enter Tryd.func6, Tryd.ntmps6
  go_wp2_with fail
  refine HW.out.mono ?_
  clear HW
  rintro e w3 ⟨hp, hb3⟩
  have HB3 := Lib.hid (HB2.out.trans (hb3.mono HB2.out.size))
  clear hb3
  rcases hp with ⟨h, _⟩ | ⟨_, h, _⟩ | ⟨_, _, h, _⟩ | ⟨_, _, k, hk, _, _, rfl⟩
  · exact absurd tok_one h
  · exact absurd ⟨by omega, by decide⟩ h
  · have h1 : fits [1] 1 = false := h _ (List.mem_singleton.2 rfl)
    exact absurd h1 (by decide)
  · obtain rfl : k = 0 := by simpa using hk
    go_wp2_with fail
    go_ret
    exact ⟨rfl, HB3.out⟩

/-- Where none clash, any two that fit one test do the same. -/
theorem no_clash {rs : List Rl} {m : Nat} (hall : ∀ j, j < (rs.map Rl.when).length → rf m ((rs.map Rl.when).getD j []) = 0) (h : ∀ i k, i < k → k < rs.length → cl rs i k = false) {t : Nat} {i k : Nat} (hi : i < rs.length) (hk : k < rs.length)
    (fi : fits (rs.getD i default).when t = true) (fk : fits (rs.getD k default).when t = true) : (rs.getD i default).to = (rs.getD k default).to := by
  have key : ∀ i k, i < k → k < rs.length → fits (rs.getD i default).when t = true → fits (rs.getD k default).when t = true → (rs.getD i default).to = (rs.getD k default).to := by
    intro i k hik hk fi fk
    have h1 := hall i (by simp; omega)
    have h2 := hall k (by simpa using hk)
    rw [when_get (by omega)] at h1
    rw [when_get hk] at h2
    have hm := fits_meets (by rw [(rf_zero h1).1, (rf_zero h2).1]) fi fk
    have hc := h i k hik hk
    unfold cl at hc
    rw [hm, Bool.and_true, decide_eq_false_iff_not] at hc
    exact Decidable.not_not.1 hc
  rcases Nat.lt_trichotomy i k with e | e | e
  · exact key i k e hk fi fk
  · rw [e]
  · exact (key k i e hi fk fi).symm
end Go.Proofs.YtpmfpegjkfnnkaaDoor
