/- slices.Clone at []api.Edge. No conditions beyond sizes. -/
import Derived.Test.YtobhclmibmpffaaDoorRows
import Derived.Test.YtobhclmibmpffaaDoorMore
import Derived.Test.YtobhclmibmpffaaDoorPairs
import Derived.Lib.AppendZeros
import Derived.Lib.SliceRun
namespace Go.Proofs.YtobhclmibmpffaaDoor
open Go.RowKit Go.Mine

theorem slInfoE : (Tryd.prog.info? 35).map (fun i => (i.zero, i.size, i.bytes)) = some (some (.agg #[.int .i64 0, .int .i64 0]), 2, 16) := by kernel_rfl

theorem cloneE_own (ao : Option Addr) (c : Nat) (xs : List (Int × Int)) (w : World) (hx : PairsAt w ao xs) (hn : ao = none → xs.length = 0) (hl : xs.length * 16 ≤ 140737488355328) :
    Calls Tryd.prog 19 #[.slice ao xs.length c] w fun e w' => ∃ v', e = .returned v' ∧ w'.ownsRow w.heap.size 35 2 v' xs.length (two xs) ∧ Below w.heap.size w w' := by
  cases ao with
  | none =>
    have hxs : xs = [] := List.eq_nil_of_length_eq_zero (hn rfl)
    subst hxs
    clear hx hn hl
    have q22 : ∀ (w : World) (a : Option Addr) (n c n' c' : Nat), (binOp .eql 22 (.slice a n c) (.slice none n' c')).run Tryd.prog w = .ok (.bool a.isNone) w := fun w a n c n' c' => Lib.run_eql_slice_nil w _ _ a n c n' c' Tryd.underlying22
    go_enter Tryd.func19, Tryd.ntmps19
    go_wp2_with fail
    go_ret
    exact ⟨_, rfl, World.ownsRow_nil _ _ _ _, Below.refl _ _⟩
  | some ad =>
    have HX := Lib.hid hx
    clear hx hn
    obtain ⟨i0, hi0, hz0, hz1, hz2⟩ := info_parts slInfoE
    have q22 : ∀ (w : World) (a : Option Addr) (n c n' c' : Nat), (binOp .eql 22 (.slice a n c) (.slice none n' c')).run Tryd.prog w = .ok (.bool a.isNone) w := fun w a n c n' c' => Lib.run_eql_slice_nil w _ _ a n c n' c' Tryd.underlying22
    go_enter Tryd.func19, Tryd.ntmps19
    go_wp2_with (at_builtin; refine wpList_append_any _ rfl _ _ 22 rfl w.heap.size 35 i0 (.agg #[.int .i64 0, .int .i64 0]) 2 16 Tryd.underlying22 hi0 hz0 hz1 hz2 rfl (by decide) _ 0 _ [] rfl ?c1 (some ad) xs.length c (two xs) rfl (two_len xs) (fun h => by cases h) ?c2 (two_one xs) ?c3 ?c4 ?c5 _ rfl ?_)
    case c1 => exact owns_empty (Nat.le_refl _) (heap_alloc_at _ _ rfl)
    case c2 => exact (HX.out.below (Nat.le_refl _) ((Below.refl _ _).alloc (Nat.le_refl _) _)).cells
    case c3 => unfold maxLen; omega
    case c4 => omega
    case c5 => simp
    intro g cap w' hown hgrow hat hlt
    have hb : Below w.heap.size w w' := ((Below.refl _ _).alloc (Nat.le_refl _) _).grown hgrow (by simp) (by simp)
    clear hgrow hat hlt
    go_wp2_with fail
    go_ret
    exact ⟨_, rfl, by simpa using hown, hb⟩

end Go.Proofs.YtobhclmibmpffaaDoor
