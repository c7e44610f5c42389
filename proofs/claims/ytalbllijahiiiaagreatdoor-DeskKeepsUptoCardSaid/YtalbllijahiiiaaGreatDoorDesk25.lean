/- desk.must, limit. -/
import Derived.Test.YtalbllijahiiiaaGreatDoorDesk24
namespace Go.Proofs.YtalbllijahiiiaaGreatDoor
open Go.RowKit Go.Mine Go.Mine.Desk

theorem neq_nil (w : World) : (binOp BinOp.neq 100 .nilIface .nilIface).run Tryz.prog w = .ok (.bool false) w := by kernel_rfl
theorem neq_errno (c : Int) (w : World) : (binOp BinOp.neq 100 (.iface 36 (.int .i64 c)) .nilIface).run Tryz.prog w = .ok (.bool true) w := by kernel_rfl
theorem must_int (x : Int) (w : World) : Calls Tryz.prog 49 #[.int .i64 x, .nilIface] w fun e w' => e = .returned (.int .i64 x) ∧ w' = w := by
  have h1 := neq_nil
  go_enter Tryz.func49, Tryz.ntmps49
  go_wp2_with fail
  go_ret
  exact ⟨rfl, rfl⟩
theorem must_int_err (v : Value) (c : Int) (w : World) : Calls Tryz.prog 49 #[v, .iface 36 (.int .i64 c)] w fun e w' => e = panics c ∧ w' = w := by
  have h1 := neq_errno c
  go_enter Tryz.func49, Tryz.ntmps49
  go_wp2_with fail
  exact body_panics ⟨rfl, rfl⟩
theorem must_tape (ao : Option Addr) (n c : Nat) (w : World) : Calls Tryz.prog 53 #[.slice ao n c, .nilIface] w fun e w' => e = .returned (.slice ao n c) ∧ w' = w := by
  have h1 := neq_nil
  go_enter Tryz.func53, Tryz.ntmps53
  go_wp2_with fail
  go_ret
  exact ⟨rfl, rfl⟩
theorem must_tape_err (v : Value) (c : Int) (w : World) : Calls Tryz.prog 53 #[v, .iface 36 (.int .i64 c)] w fun e w' => e = panics c ∧ w' = w := by
  have h1 := neq_errno c
  go_enter Tryz.func53, Tryz.ntmps53
  go_wp2_with fail
  exact body_panics ⟨rfl, rfl⟩
theorem must_rows (ao : Option Addr) (n c : Nat) (w : World) : Calls Tryz.prog 61 #[.slice ao n c, .nilIface] w fun e w' => e = .returned (.slice ao n c) ∧ w' = w := by
  have h1 := neq_nil
  go_enter Tryz.func61, Tryz.ntmps61
  go_wp2_with fail
  go_ret
  exact ⟨rfl, rfl⟩
theorem must_rows_err (v : Value) (c : Int) (w : World) : Calls Tryz.prog 61 #[v, .iface 36 (.int .i64 c)] w fun e w' => e = panics c ∧ w' = w := by
  have h1 := neq_errno c
  go_enter Tryz.func61, Tryz.ntmps61
  go_wp2_with fail
  exact body_panics ⟨rfl, rfl⟩
theorem must_val (k : Bool) (z : Int) (ao : Option Addr) (n c : Nat) (w : World) : Calls Tryz.prog 57 #[.agg #[.bool k, .int .i64 z, .slice ao n c], .nilIface] w fun e w' => e = .returned (.agg #[.bool k, .int .i64 z, .slice ao n c]) ∧ Below w.heap.size w w' := by
  have h1 := neq_nil
  go_enter Tryz.func57, Tryz.ntmps57
  go_wp2_with fail
  have k1 : Blk ((w.alloc (.cells #[.bool k, .int .i64 z, .slice ao n c] 53)).alloc (.cells #[.bool k, .int .i64 z, .slice ao n c] 53)) (w.heap.size + 1) 53 #[.bool k, .int .i64 z, .slice ao n c] := by have := Blk.new (w.alloc (.cells #[.bool k, .int .i64 z, .slice ao n c] 53)) 53 #[.bool k, .int .i64 z, .slice ao n c]; simpa using this
  have d0 := k1.cell 0
  have d1 := k1.cell 1
  have d2 := k1.cell 2
  simp only [List.getElem?_toArray, List.getElem?_cons_zero, List.getElem?_cons_succ] at d0 d1 d2
  refine bodyPost_ret (v := .agg #[.bool k, .int .i64 z, .slice ao n c]) (by simp [results, Tryz.results57, go_sem, d0, d1, d2]) rfl ⟨rfl, ?_⟩
  exact ((Below.refl w.heap.size w).alloc (Nat.le_refl _) _).alloc (by simp) _
theorem must_val_err (k : Bool) (z : Int) (ao : Option Addr) (n c : Nat) (cc : Int) (w : World) : Calls Tryz.prog 57 #[.agg #[.bool k, .int .i64 z, .slice ao n c], .iface 36 (.int .i64 cc)] w fun e w' => e = panics cc ∧ Below w.heap.size w w' := by
  have h1 := neq_errno cc
  have HB := Lib.hid (show Below w.heap.size w ((w.alloc (.cells #[.bool k, .int .i64 z, .slice ao n c] 53)).alloc (.cells #[.bool false, .int .i64 0, .slice none 0 0] 53)) from ((Below.refl w.heap.size w).alloc (Nat.le_refl _) _).alloc (by simp) _)
  go_enter Tryz.func57, Tryz.ntmps57
  go_wp2_with fail
  exact body_panics ⟨rfl, HB.out⟩
set_option maxRecDepth 100000 in
theorem limit_any (n : Int) (w : World) : Calls Tryz.prog 11 #[.int .i64 n] w fun e w' => (∃ eb, e = .returned (wholeE eb) ∧ w.heap.size ≤ eb ∧ ExprAt w' eb n) ∧ Below w.heap.size w w' := by
  go_enter Tryz.func11, Tryz.ntmps11
  go_wp2_with fail
  have hb : Below w.heap.size w ((w.alloc (.cells #[.int .i64 7, .int .i64 0, .slice (some ⟨w.heap.size + 1, 0, none⟩) 2 2] 41)).alloc (.cells #[.int .i64 2, .int .i64 0, .slice none 0 0, .int .i64 1, .int .i64 n, .slice none 0 0] 41)) := ((Below.refl w.heap.size w).alloc (Nat.le_refl _) _).alloc (by simp) _
  have k0 : Blk ((w.alloc (.cells #[.int .i64 7, .int .i64 0, .slice (some ⟨w.heap.size + 1, 0, none⟩) 2 2] 41)).alloc (.cells #[.int .i64 2, .int .i64 0, .slice none 0 0, .int .i64 1, .int .i64 n, .slice none 0 0] 41)) w.heap.size 41 #[.int .i64 7, .int .i64 0, .slice (some ⟨w.heap.size + 1, 0, none⟩) 2 2] := (Blk.new _ _ _).alloc _
  have k1 : Blk ((w.alloc (.cells #[.int .i64 7, .int .i64 0, .slice (some ⟨w.heap.size + 1, 0, none⟩) 2 2] 41)).alloc (.cells #[.int .i64 2, .int .i64 0, .slice none 0 0, .int .i64 1, .int .i64 n, .slice none 0 0] 41)) (w.heap.size + 1) 41 #[.int .i64 2, .int .i64 0, .slice none 0 0, .int .i64 1, .int .i64 n, .slice none 0 0] := by have := Blk.new (w.alloc (.cells #[.int .i64 7, .int .i64 0, .slice (some ⟨w.heap.size + 1, 0, none⟩) 2 2] 41)) 41 #[.int .i64 2, .int .i64 0, .slice none 0 0, .int .i64 1, .int .i64 n, .slice none 0 0]; simpa using this
  have d0 := k0.cell 0
  have d1 := k0.cell 1
  have d2 := k0.cell 2
  simp only [List.getElem?_toArray, List.getElem?_cons_zero, List.getElem?_cons_succ] at d0 d1 d2
  refine bodyPost_ret (v := wholeE (w.heap.size + 1)) (by simp [results, Tryz.results11, go_sem, d0, d1, d2]) rfl ⟨⟨w.heap.size + 1, rfl, by omega, k1⟩, hb⟩
end Go.Proofs.YtalbllijahiiiaaGreatDoor
