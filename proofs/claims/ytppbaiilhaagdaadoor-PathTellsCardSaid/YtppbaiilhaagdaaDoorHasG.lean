/- assayerref2.HasEdge; assayersame.Edges of one list at two places. No conditions. -/
import Derived.Test.YtppbaiilhaagdaaDoorRows
import Derived.Test.YtppbaiilhaagdaaDoorPairs
import Derived.Deep.QuietTactic
import Derived.BigQuiet
namespace Go.Proofs.YtppbaiilhaagdaaDoor
open Go.RowKit Go.Mine

set_option maxHeartbeats 600000 in
theorem hasEdge_any (es : List (Int × Int)) (x y : Int) (ao : Option Addr) (c : Nat) (w : World) (hx : PairsAt w ao es) (hl : es.length ≤ maxLen) :
    Calls Tryd.prog 14 #[.slice ao es.length c, .int .i64 x, .int .i64 y] w fun e w' => e = .returned (.bool (decide ((x, y) ∈ es))) ∧ w = w' := by
  unfold maxLen at hl
  have HX := Lib.hid hx; clear hx
  go_enter Tryd.func14, Tryd.ntmps14
  go_wp2_with fail
  go_loop [7] (fun i => ∃ k : Nat, i = .int .i64 k ∧ k ≤ es.length ∧ RowKit.Hid (∀ j, j < k → es.getD j (0, 0) ≠ (x, y))) (fun i => es.length - (intOf i).toNat)
  case atStart => exact ⟨0, rfl, by omega, Lib.hid (fun j hj => by omega)⟩
  case round =>
    obtain ⟨k, rfl, hk, hall⟩ := hrel
    by_cases hlt : k < es.length
    · obtain ⟨b, o, rfl, hc1, hc2⟩ := HX.out k hlt
      have hmem : es.getD k (0, 0) ∈ es := by simp [hlt]
      obtain ⟨z, hz⟩ : ∃ z, z = es.getD k (0, 0) := ⟨_, rfl⟩
      rw [← hz] at hc1 hc2 hmem
      obtain ⟨z1, z2⟩ := z
      simp only at hc1 hc2
      have HM := Lib.hid hmem
      have HNE := Lib.hid (show (z1, z2) ≠ (x, y) → ∀ j, j < k + 1 → es.getD j (0, 0) ≠ (x, y) from fun h j hj => by
        by_cases e : j = k
        · subst e; rw [← hz]; exact h
        · exact hall.out j (by omega))
      clear hz hmem
      by_cases h1 : z1 = x
      · have hb1 : (z1 == x) = true := by simpa using h1
        by_cases h2 : z2 = y
        · have hb2 : (z2 == y) = true := by simpa using h2
          have HE := Lib.hid (show decide ((x, y) ∈ es) = true from decide_eq_true (by rw [← h1, ← h2]; exact HM.out))
          clear h1 h2
          go_wp2_with fail
          go_ret
          exact ⟨by rw [HE.out]; rfl, rfl⟩
        · have hb2 : (z2 == y) = false := by simpa using h2
          have HN := Lib.hid (HNE.out (fun e => h2 (by simp only [Prod.mk.injEq] at e; exact e.2)))
          clear h1 h2 hall
          go_wp2_with fail
          go_round
          case rel => exact ⟨k + 1, by go_num, by omega, HN⟩
          case measure => simp [intOf]; omega
      · have hb1 : (z1 == x) = false := by simpa using h1
        have HN := Lib.hid (HNE.out (fun e => h1 (by simp only [Prod.mk.injEq] at e; exact e.1)))
        clear h1 hall
        go_wp2_with fail
        go_round
        case rel => exact ⟨k + 1, by go_num, by omega, HN⟩
        case measure => simp [intOf]; omega
    · have hke : k = es.length := by omega
      subst hke
      have HE := Lib.hid (show decide ((x, y) ∈ es) = false from decide_eq_false (fun hx => by
        obtain ⟨j, hj, hjv⟩ := List.mem_iff_getElem.1 hx
        exact hall.out j hj (by simpa [hj] using hjv)))
      go_wp2_with fail
      go_ret
      exact ⟨by rw [HE.out]; rfl, rfl⟩
end Go.Proofs.YtppbaiilhaagdaaDoor
