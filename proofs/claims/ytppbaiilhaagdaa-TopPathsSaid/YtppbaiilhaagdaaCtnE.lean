/- slices.Index, Contains at []api.Edge. No conditions. -/
import Derived.Test.YtppbaiilhaagdaaRows
import Derived.Test.YtppbaiilhaagdaaPairs
import Derived.Deep.QuietTactic
import Derived.BigQuiet
namespace Go.Proofs.Ytppbaiilhaagdaa
open Go.RowKit Go.Mine

set_option maxHeartbeats 600000 in
theorem indexE_any (es : List (Int × Int)) (x y : Int) (ao : Option Addr) (c : Nat) (w : World) (hx : PairsAt w ao es) (hl : es.length ≤ maxLen) :
    Calls Try.prog 20 #[.slice ao es.length c, .agg #[.int .i64 x, .int .i64 y]] w fun e w' => (∃ z, e = .returned (.int .i64 z) ∧ ((z = -1 ∧ (x, y) ∉ es) ∨ (∃ k : Nat, z = k ∧ k < es.length ∧ (x, y) ∈ es))) ∧ Below w.heap.size w w' := by
  unfold maxLen at hl
  have HX := Lib.hid hx; clear hx
  have hnb : (w.alloc (.cells #[.int .i64 x, .int .i64 y] 32)).heap[w.heap.size]? = some (.cells #[.int .i64 x, .int .i64 y] 32 (0, 0)) := heap_alloc_new _ _
  have HNB := Lib.hid hnb
  clear hnb
  go_enter Try.func20, Try.ntmps20
  go_wp2_with fail
  go_loopw [8] (fun i wr => ∃ k : Nat, i = .int .i64 k ∧ k ≤ es.length ∧ RowKit.Hid (∀ j, j < k → es.getD j (0, 0) ≠ (x, y)) ∧ RowKit.Hid (wr.heap[w.heap.size]? = some (.cells #[.int .i64 x, .int .i64 y] 32 (0, 0)) ∧ Below w.heap.size w wr)) (fun i _ => es.length - (intOf i).toNat)
  case atStart => exact ⟨0, rfl, by omega, Lib.hid (fun j hj => by omega), Lib.hid ⟨HNB.out, (Below.refl _ _).alloc (Nat.le_refl _) _⟩⟩
  case round =>
    obtain ⟨k, rfl, hk, hall, hst⟩ := hrel
    by_cases hlt : k < es.length
    · obtain ⟨b, o, rfl, hc1, hc2⟩ := HX.out.below (Nat.le_refl _) hst.out.2 k hlt
      have hmem : es.getD k (0, 0) ∈ es := by simp [hlt]
      obtain ⟨z, hz⟩ : ∃ z, z = es.getD k (0, 0) := ⟨_, rfl⟩
      rw [← hz] at hc1 hc2 hmem
      obtain ⟨z1, z2⟩ := z
      simp only at hc1 hc2
      have hn1 : wr.cell? ⟨w.heap.size, 0, none⟩ = some (.int .i64 x) := by rw [cell_of_row _ _ 0 _ _ _ hst.out.1]; rfl
      have hn2 : wr.cell? ⟨w.heap.size, 1, none⟩ = some (.int .i64 y) := by rw [cell_of_row _ _ 1 _ _ _ hst.out.1]; rfl
      have HZ := Lib.hid hz
      have HM := Lib.hid hmem
      have HST := Lib.hid (fun m => (show (wr.drewN m).heap[w.heap.size]? = some (.cells #[.int .i64 x, .int .i64 y] 32 (0, 0)) ∧ Below w.heap.size w (wr.drewN m) from ⟨hst.out.1, below_drewN hst.out.2 m⟩))
      have HNE := Lib.hid (show (z1, z2) ≠ (x, y) → ∀ j, j < k + 1 → es.getD j (0, 0) ≠ (x, y) from fun h j hj => by
        by_cases e : j = k
        · subst e; rw [← hz]; exact h
        · exact hall.out j (by omega))
      clear hz hmem hst
      by_cases h1 : x = z1
      · have hb1 : (x == z1) = true := by simpa using h1
        by_cases h2 : y = z2
        · have hb2 : (y == z2) = true := by simpa using h2
          have HE := Lib.hid (And.intro h1 h2)
          clear h1 h2
          go_wp2_with fail
          go_quiet (fail)
          go_wp2_with fail
          go_ret
          exact ⟨⟨_, rfl, .inr ⟨k, rfl, hlt, by rw [HE.out.1, HE.out.2]; exact HM.out⟩⟩, (HST.out _).2⟩
        · have hb2 : (y == z2) = false := by simpa using h2
          have HN := Lib.hid (HNE.out (fun e => h2 (by simp only [Prod.mk.injEq] at e; exact e.2.symm)))
          clear h1 h2 hall
          go_wp2_with fail
          go_quiet (fail)
          go_wp2_with fail
          go_roundw
          case rel => exact ⟨k + 1, by go_num, by omega, HN, Lib.hid (HST.out _)⟩
          case measure => simp [intOf]; omega
      · have hb1 : (x == z1) = false := by simpa using h1
        have HN := Lib.hid (HNE.out (fun e => h1 (by simp only [Prod.mk.injEq] at e; exact e.1.symm)))
        clear h1 hall
        go_wp2_with fail
        go_quiet (fail)
        go_wp2_with fail
        go_roundw
        case rel => exact ⟨k + 1, by go_num, by omega, HN, Lib.hid (HST.out _)⟩
        case measure => simp [intOf]; omega
    · have hke : k = es.length := by omega
      subst hke
      go_wp2_with fail
      go_ret
      refine ⟨⟨_, rfl, .inl ⟨rfl, fun hx => ?_⟩⟩, hst.out.2⟩
      obtain ⟨j, hj, hjv⟩ := List.mem_iff_getElem.1 hx
      exact hall.out j hj (by simpa [hj] using hjv)
theorem containsE_any (es : List (Int × Int)) (x y : Int) (ao : Option Addr) (c : Nat) (w : World) (hx : PairsAt w ao es) (hl : es.length ≤ maxLen) :
    Calls Try.prog 17 #[.slice ao es.length c, .agg #[.int .i64 x, .int .i64 y]] w fun e w' => e = .returned (.bool (decide ((x, y) ∈ es))) ∧ Below w.heap.size w w' := by
  have H := Lib.hid (indexE_any es x y ao c (w.alloc (.cells #[.int .i64 x, .int .i64 y] 32)) (hx.below (Nat.le_refl _) ((Below.refl _ _).alloc (Nat.le_refl _) _)) hl)
  unfold maxLen at hl
  clear hx
  go_enter Try.func17, Try.ntmps17
  go_wp2_with fail
  refine H.out.mono ?_
  clear H
  rintro e w' ⟨⟨z, rfl, hz⟩, hb⟩
  have HB := Lib.hid (((Below.refl w.heap.size w).alloc (Nat.le_refl _) (.cells #[.int .i64 x, .int .i64 y] 32)).trans (hb.mono (by simp)))
  clear hb
  rcases hz with ⟨rfl, hz⟩ | ⟨k, rfl, hk, hz⟩
  · have HE := Lib.hid (show decide ((x, y) ∈ es) = false from decide_eq_false hz)
    clear hz
    go_wp2_with fail
    go_ret
    exact ⟨by rw [HE.out]; rfl, HB.out⟩
  · have HE := Lib.hid (show decide ((x, y) ∈ es) = true from decide_eq_true hz)
    clear hz
    go_wp2_with fail
    go_ret
    exact ⟨by rw [HE.out]; first | rfl | simp, HB.out⟩
end Go.Proofs.Ytppbaiilhaagdaa
