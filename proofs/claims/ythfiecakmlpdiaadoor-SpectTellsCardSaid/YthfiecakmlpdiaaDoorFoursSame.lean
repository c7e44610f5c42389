/- assayersame.Fours of one list. No conditions. -/
import Derived.Test.YthfiecakmlpdiaaDoorFours
import Derived.Test.YthfiecakmlpdiaaDoorRows
import Derived.Deep.QuietTactic
import Derived.BigQuiet
import Derived.ChangeKeysEq
namespace Go.Proofs.YthfiecakmlpdiaaDoor
open Go.RowKit Go.Mine

theorem infoI3f : (Tryd.prog.info? 3).map (fun i => (i.zero, i.size, i.bytes)) = some (some (.int .i64 0), 1, 8) := by kernel_rfl
theorem four_parts {x : List Int} (h : x.length = 4) : ∃ a b c d, x = [a, b, c, d] := by
  match x, h with
  | [a, b, c, d], _ => exact ⟨a, b, c, d, rfl⟩
theorem cells3 : Tryd.prog.cellsOf 3 = 1 := by kernel_rfl
theorem four_und : Tryd.prog.underlying 33 = some (.array 4 3) := by kernel_rfl
theorem four_guard : Tryd.prog.eqGuardType Tryd.prog.depth 33 = false := by kernel_rfl
theorem four_neq (a b c d : Int) (w : World) : (binOp .neq 33 (.agg #[.int .i64 a, .int .i64 b, .int .i64 c, .int .i64 d]) (.agg #[.int .i64 a, .int .i64 b, .int .i64 c, .int .i64 d])).run Tryd.prog w = .ok (.bool false) w := by
  obtain ⟨i0, hi0, _⟩ := info_parts infoI3f
  rw [run_neq_struct, run_equalIn_array w 9999 _ _ four_und hi0, cells3]
  simp [List.range, List.range.loop, Op.eqItems, go_sem]
set_option maxHeartbeats 1000000 in
/-- Two lists of fours that are the same. -/
theorem fours_same (l : List (List Int)) (ao bo : Option Addr) (ac bc : Nat) (w : World) (hx : FoursAt w ao l) (hy : FoursAt w bo l) (h4 : ∀ r ∈ l, r.length = 4) (hl : l.length ≤ maxLen) :
    Calls Tryd.prog 11 #[.slice ao l.length ac, .slice bo l.length bc] w fun e w' => e = .returned (.bool true) ∧ Below w.heap.size w w' := by
  unfold maxLen at hl
  have HX := Lib.hid hx
  have HY := Lib.hid hy
  have H4 := Lib.hid h4
  clear hx hy h4
  have hb : ((l.length : Int) != (l.length : Int)) = false := by rw [bne_eq_false_iff_eq]
  go_enter Tryd.func11, Tryd.ntmps11
  go_wp2_with fail
  go_loopw [5] (fun iv wr => ∃ i nq : Nat, iv = .int .i64 i ∧ i ≤ l.length ∧ wr = w.drewN nq) (fun iv _ => l.length - (intOf iv).toNat)
  case atStart => exact ⟨0, 0, rfl, by omega, (drewN_zero w).symm⟩
  case round =>
    obtain ⟨i, nq, rfl, hi, rfl⟩ := hrel
    by_cases hil : i < l.length
    · obtain ⟨b1, o1, rfl, h1⟩ := HX.out i hil
      obtain ⟨b2, o2, rfl, h2⟩ := HY.out i hil
      obtain ⟨z1, z2, z3, z4, hz⟩ := four_parts (H4.out (l.getD i []) (by simp [hil]))
      rw [hz] at h1 h2
      have hc1 := h1 0 (by omega)
      have hc2 := h1 1 (by omega)
      have hc3 := h1 2 (by omega)
      have hc4 := h1 3 (by omega)
      have hd1 := h2 0 (by omega)
      have hd2 := h2 1 (by omega)
      have hd3 := h2 2 (by omega)
      have hd4 := h2 3 (by omega)
      simp only [List.getD_cons_zero, List.getD_cons_succ, Nat.add_zero] at hc1 hc2 hc3 hc4 hd1 hd2 hd3 hd4
      have hi0 : (0 : Int) ≤ (i : Int) := by omega
      have hil2 : (i : Int) < (l.length : Int) := by omega
      have hneq := fun w : World => four_neq z1 z2 z3 z4 w
      have heg := four_guard
      clear h1 h2 hz
      go_wp2_with fail
      go_quiet (fail)
      go_wp2_with fail
      go_roundw
      case rel => exact ⟨i + 1, _, by go_num, by omega, rfl⟩
      case measure => simp [intOf]; omega
    · obtain rfl : i = l.length := by omega
      go_wp2_with fail
      go_ret
      exact ⟨rfl, below_drewN (Below.refl _ _) _⟩
end Go.Proofs.YthfiecakmlpdiaaDoor
