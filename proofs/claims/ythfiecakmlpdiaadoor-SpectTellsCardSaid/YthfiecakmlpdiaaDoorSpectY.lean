/- spect's blame, cmp.Compare[int]. No conditions. -/
import Derived.Test.YthfiecakmlpdiaaDoorSpect1
import Derived.Deep.QuietTactic
import Derived.BigQuiet
import Derived.Shelf.SlSortCmp.QuietGrown
namespace Go.Proofs.YthfiecakmlpdiaaDoor
open Go.RowKit Go.Mine Go.Mine.Suite Go.Mine.Spec Go.Sort

theorem isNaN_any (x : Int) (w : World) : Calls Tryd.prog 22 #[.int .i64 x] w fun e w' => e = .returned (.bool false) ∧ w = w' := by
  have hb : (x != x) = false := by simp
  go_enter Tryd.func22, Tryd.ntmps22
  go_wp2_with fail
  go_ret
  exact ⟨rfl, rfl⟩
def cmpI (x y : Int) : Int := if x < y then -1 else if y < x then 1 else 0
theorem compare_any (x y : Int) (w : World) : Calls Tryd.prog 19 #[.int .i64 x, .int .i64 y] w fun e w' => e = .returned (.int .i64 (cmpI x y)) ∧ w = w' := by
  go_enter Tryd.func19, Tryd.ntmps19
  go_wp2_with fail
  refine (isNaN_any x w).mono ?_
  rintro e w1 ⟨rfl, rfl⟩
  go_wp2_with fail
  refine (isNaN_any y w).mono ?_
  rintro e w1 ⟨rfl, rfl⟩
  by_cases h1 : x < y
  · go_wp2_with fail
    go_ret
    exact ⟨by unfold cmpI; rw [if_pos h1]; rfl, rfl⟩
  · by_cases h2 : y < x
    · go_wp2_with fail
      go_ret
      exact ⟨by unfold cmpI; rw [if_neg (by omega), if_pos h2]; rfl, rfl⟩
    · go_wp2_with fail
      go_ret
      exact ⟨by unfold cmpI; rw [if_neg (by omega), if_neg (by omega)]; rfl, rfl⟩

theorem alloc_grows (w : World) (o : Obj) (q : Nat) : ∃ q' os, (w.alloc o).drewN q = grow (w.drewN q') os :=
  ⟨q, #[o], by unfold grow; rw [← Array.push_eq_append]; rfl⟩
theorem below_grow (w : World) (q : Nat) (os : Array Obj) : Below w.heap.size w (grow (w.drewN q) os) :=
  ⟨rfl, rfl, rfl, by simp [grow, World.drewN], fun k hk => by
    show (w.heap ++ os)[k]? = w.heap[k]?
    rw [Array.getElem?_append_left hk]⟩
def top1 (x : Nat) : Nat := if x < 1 then 1 else x
def badOf (a b c d : Nat) : Nat := a * top1 (c + d)
def goodOf (a b c d : Nat) : Nat := c * top1 (a + b)

/-- Line x's blame: of how much. -/
def bl (ts : List Nat) (fs : List Bool) (x : Nat) : Nat := badOf (cK ts fs x 0 ts.length) (cK ts fs x 1 ts.length) (cK ts fs x 2 ts.length) (cK ts fs x 3 ts.length)
def bt (ts : List Nat) (fs : List Bool) (x : Nat) : Nat := top1 (bl ts fs x + goodOf (cK ts fs x 0 ts.length) (cK ts fs x 1 ts.length) (cK ts fs x 2 ts.length) (cK ts fs x 3 ts.length))
/-- How Order compares two lines. -/
def cmpO (ts : List Nat) (fs : List Bool) (x y : Nat) : Int := cmpI ((bl ts fs y * bt ts fs x : Nat) : Int) ((bl ts fs x * bt ts fs y : Nat) : Int)
theorem top1_le {x m : Nat} (h : x ≤ m) (h1 : 1 ≤ m) : top1 x ≤ m := by unfold top1; split <;> omega
theorem bl_le (ts : List Nat) (fs : List Bool) (x : Nat) (h : ts.length ≤ 12) : bl ts fs x ≤ 288 := by
  unfold bl badOf
  have h0 := cK_le ts fs x 0 ts.length
  have h2 := cK_le ts fs x 2 ts.length
  have h3 := cK_le ts fs x 3 ts.length
  exact Nat.mul_le_mul (show _ ≤ 12 by omega) (top1_le (show _ ≤ 24 by omega) (by omega))
theorem bt_le (ts : List Nat) (fs : List Bool) (x : Nat) (h : ts.length ≤ 12) : bt ts fs x ≤ 576 := by
  have h5 := bl_le ts fs x h
  have h0 := cK_le ts fs x 0 ts.length
  have h1 := cK_le ts fs x 1 ts.length
  have h2 := cK_le ts fs x 2 ts.length
  have h6 : goodOf (cK ts fs x 0 ts.length) (cK ts fs x 1 ts.length) (cK ts fs x 2 ts.length) (cK ts fs x 3 ts.length) ≤ 288 := by
    unfold goodOf
    exact Nat.mul_le_mul (show _ ≤ 12 by omega) (top1_le (show _ ≤ 24 by omega) (by omega))
  unfold bt
  exact top1_le (by omega) (by omega)
end Go.Proofs.YthfiecakmlpdiaaDoor
