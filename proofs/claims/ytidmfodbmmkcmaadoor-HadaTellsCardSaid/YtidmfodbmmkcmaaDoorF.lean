import Derived.Test.YtidmfodbmmkcmaaDoorC
namespace Go.Proofs.YtidmfodbmmkcmaaDoor
open Go.RowKit Go.Mine Go.Mine.Hada

/-- How many of the six lowest bits are set. -/
def pc (x : Nat) : Nat := x % 2 + x / 2 % 2 + x / 4 % 2 + x / 8 % 2 + x / 16 % 2 + x / 32 % 2
theorem pc_le (x : Nat) : pc x ≤ 6 := by unfold pc; omega

theorem ones64 (x : Nat) (hx : x < 64) (w : World) :
    Calls Tryd.prog 20 #[.int .u64 x] w fun e w' => e = .returned (.int .i64 (pc x)) ∧ w = w' := by
  go_enter Tryd.func20, Tryd.ntmps20
  go_wp2_with fail
  go_ret
  refine ⟨congrArg Ending.returned (congrArg (Value.int .i64) ?_), rfl⟩
  clear w
  revert x
  decide +kernel

theorem ones (x : Nat) (hx : x < 64) (w : World) :
    Calls Tryd.prog 17 #[.int .u64 x] w fun e w' => e = .returned (.int .i64 (pc x)) ∧ w = w' := by
  go_enter Tryd.func17, Tryd.ntmps17
  go_wp2_with fail
  refine (ones64 x hx w).mono ?_
  rintro e w' ⟨rfl, rfl⟩
  go_wp2_with fail
  go_ret
  exact ⟨rfl, rfl⟩

/-- The sign at a place. -/
def sg (i j : Nat) : Int := 1 - 2 * ((pc (i &&& j) % 2 : Nat) : Int)
theorem and_nat : ∀ i, i < 64 → ∀ j, j < 64 → bits BinOp.and IntKind.i64 ((i : Nat) : Int) ((j : Nat) : Int) = ((i &&& j : Nat) : Int) := by decide +kernel
theorem and_small : ∀ i, i < 64 → ∀ j, j < 64 → i &&& j < 64 := by decide +kernel

theorem sign_any (i j : Nat) (hi : i < 64) (hj : j < 64) (w : World) :
    Calls Tryd.prog 15 #[.int .i64 i, .int .i64 j] w fun e w' => e = .returned (.int .i64 (sg i j)) ∧ w = w' := by
  have h1 := and_nat i hi j hj
  have h2 := and_small i hi j hj
  have hs : sg i j = 1 - 2 * ((pc (i &&& j) % 2 : Nat) : Int) := rfl
  rw [hs]
  obtain ⟨x, hx⟩ : ∃ x, x = i &&& j := ⟨_, rfl⟩
  rw [← hx] at h1 h2 ⊢
  clear hx hs
  go_enter Tryd.func15, Tryd.ntmps15
  go_wp2_with fail
  refine (ones x h2 w).mono ?_
  rintro e w' ⟨rfl, rfl⟩
  have h3 := pc_le x
  obtain ⟨p, hp⟩ : ∃ p, p = pc x := ⟨_, rfl⟩
  rw [← hp] at h3 ⊢
  have HP := Lib.hid hp; clear hp
  go_wp2_with fail
  go_ret
  exact ⟨by rw [← HP.out]; simp, rfl⟩
end Go.Proofs.YtidmfodbmmkcmaaDoor
