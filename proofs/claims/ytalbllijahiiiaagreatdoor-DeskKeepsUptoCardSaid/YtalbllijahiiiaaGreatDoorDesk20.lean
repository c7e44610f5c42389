/- expr.Fails at a desk's expression. -/
import Derived.Test.YtalbllijahiiiaaGreatDoorDesk19
namespace Go.Proofs.YtalbllijahiiiaaGreatDoor
open Go.RowKit Go.Mine Go.Mine.Desk

set_option maxRecDepth 100000 in
set_option maxHeartbeats 1000000 in
theorem fails_any (n : Int) (eb : Nat) (v : Value) (x : V) (B0 : Nat) (w : World) (hg : Gl w) (he : ExprAt w eb n) (hv : ValAt w B0 v x) (hx : VOk x) : Calls Tryz.prog 163 #[wholeE eb, v] w fun e w' => e = .returned (.tuple #[.bool (decide (n ≤ total x)), .nilIface]) ∧ Below w.heap.size w w' := by
  obtain ⟨vk, vz, vao, vn, vc, hsh⟩ := hv.shape
  obtain ⟨w2, hw2⟩ : ∃ w2, w2 = (w.alloc (.cells #[.int .i64 7, .int .i64 0, .slice (some ⟨eb, 0, none⟩) 2 2] 41)).alloc (.cells #[.bool vk, .int .i64 vz, .slice vao vn vc] 53) := ⟨_, rfl⟩
  have hb2 : Below w.heap.size w w2 := by rw [hw2]; exact ((Below.refl w.heap.size w).alloc (Nat.le_refl _) _).alloc (by simp) _
  have HC := Lib.hid (eval_any n eb v x B0 w2 (hg.on hb2) ((show Blk w eb _ _ from he).below hb2) (hv.below hb2) hx)
  have HB := Lib.hid hb2
  have HW := Lib.hid hw2
  have hnn : ∀ w : World, (binOp BinOp.eql 100 .nilIface (.iface 36 (.int .i64 6))).run Tryz.prog w = .ok (.bool false) w := fun _ => by kernel_rfl
  rw [hsh] at HC ⊢
  rw [hw2] at HC
  clear hw2 hb2 hv he hg
  by_cases ht : n ≤ total x
  · have hvd : verdict n x = 0 := by unfold verdict; rw [if_neg (by omega)]
    have hd : decide (n ≤ total x) = true := decide_eq_true ht
    rw [hvd] at HC
    rw [hd]
    go_enter Tryz.func163, Tryz.ntmps163
    go_wp2_with fail
    refine HC.out.mono ?_
    clear HC
    rintro e w3 ⟨rfl, hb3⟩
    rw [← HW.out] at hb3
    have HB3 := Lib.hid (HB.out.trans (hb3.mono HB.out.size))
    clear hb3
    go_wp2_with fail
    go_ret2
    exact ⟨rfl, HB3.out⟩
  · have hvd : verdict n x = 1 := by unfold verdict; rw [if_pos (by omega)]
    have hd : decide (n ≤ total x) = false := decide_eq_false ht
    rw [hvd] at HC
    rw [hd]
    go_enter Tryz.func163, Tryz.ntmps163
    go_wp2_with fail
    refine HC.out.mono ?_
    clear HC
    rintro e w3 ⟨rfl, hb3⟩
    rw [← HW.out] at hb3
    have HB3 := Lib.hid (HB.out.trans (hb3.mono HB.out.size))
    clear hb3
    go_wp2_with fail
    go_ret2
    exact ⟨rfl, HB3.out⟩
end Go.Proofs.YtalbllijahiiiaaGreatDoor
