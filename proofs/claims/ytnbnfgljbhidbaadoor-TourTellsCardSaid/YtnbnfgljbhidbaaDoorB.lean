/- slices.Reverse of a row of the call's own. -/
import Derived.Test.YtnbnfgljbhidbaaDoorA
namespace Go.Proofs.YtnbnfgljbhidbaaDoor
open Go.RowKit Go.Mine Go.Mine.Tour Go.Deep

/-- Turned round from both ends, k places each. -/
def mix (xs : List Int) (k : Nat) : List Int := (List.range xs.length).map fun t => if t < k ∨ xs.length - k ≤ t then xs.getD (xs.length - 1 - t) 0 else xs.getD t 0
theorem mix_len (xs : List Int) (k : Nat) : (mix xs k).length = xs.length := by simp [mix]
theorem mix_get (xs : List Int) (k t : Nat) (ht : t < (mix xs k).length) : (mix xs k)[t] = if t < k ∨ xs.length - k ≤ t then xs.getD (xs.length - 1 - t) 0 else xs.getD t 0 := by simp [mix]
theorem mix_zero (xs : List Int) : mix xs 0 = xs := by
  refine List.ext_getElem (mix_len xs 0) fun t h1 h2 => ?_
  rw [mix_get, if_neg (by omega)]
  simp [h2]
theorem mix_end (xs : List Int) (k : Nat) (h : xs.length ≤ 2 * k + 1) : mix xs k = xs.reverse := by
  refine List.ext_getElem (by rw [mix_len]; simp) fun t h1 h2 => ?_
  have ht : t < xs.length := by simpa using h2
  rw [mix_get, List.getElem_reverse]
  by_cases hc : t < k ∨ xs.length - k ≤ t
  · rw [if_pos hc]; simp [show xs.length - 1 - t < xs.length by omega]
  · rw [if_neg hc]
    have : xs.length - 1 - t = t := by omega
    simp [ht, this]
theorem mix_low (xs : List Int) (k : Nat) (h : 2 * k + 1 < xs.length) : (mix xs k)[k]? = some (xs.getD k 0) := by
  rw [List.getElem?_eq_getElem (by rw [mix_len]; omega), mix_get, if_neg (by omega)]
theorem mix_high (xs : List Int) (k j : Nat) (h : 2 * k + 1 < xs.length) (hj : j + k + 1 = xs.length) : (mix xs k)[j]? = some (xs.getD j 0) := by
  rw [List.getElem?_eq_getElem (by rw [mix_len]; omega), mix_get, if_neg (by omega)]
theorem mix_step (xs : List Int) (k j : Nat) (h : 2 * k + 1 < xs.length) (hj : j + k + 1 = xs.length) : ((mix xs k).set k (xs.getD j 0)).set j (xs.getD k 0) = mix xs (k + 1) := by
  refine List.ext_getElem (by simp [mix_len]) fun t h1 h2 => ?_
  have ht : t < xs.length := by rw [mix_len] at h2; exact h2
  rw [mix_get, List.getElem_set, List.getElem_set]
  by_cases e1 : j = t
  · subst e1
    rw [if_pos rfl, if_pos (by omega), show xs.length - 1 - j = k by omega]
  · rw [if_neg e1]
    by_cases e2 : k = t
    · subst e2
      rw [if_pos rfl, if_pos (by omega), show xs.length - 1 - k = j by omega]
    · rw [if_neg e2, mix_get]
      by_cases e3 : t < k ∨ xs.length - k ≤ t
      · rw [if_pos e3, if_pos (by omega)]
      · rw [if_neg e3, if_neg (by omega)]

theorem grown_drew {w w' : World} {row : Option Nat} (h : w.grownBy w' row) : w.grownBy w'.drew row := ⟨h.os, h.tape, h.output, h.size, h.block⟩

set_option maxHeartbeats 400000 in
theorem reverse_any (B g cap : Nat) (xs : List Int) (w : World) (ho : w.ownsRow B 3 1 (.slice (some ⟨g, 0, none⟩) xs.length cap) xs.length (xs.map (Value.int .i64))) (hl : xs.length ≤ 1000) (hl0 : 0 < xs.length) :
    Calls Tryd.prog 17 #[.slice (some ⟨g, 0, none⟩) xs.length cap] w fun e w' => e = .returned (.tuple #[]) ∧ w'.ownsRow B 3 1 (.slice (some ⟨g, 0, none⟩) xs.length cap) xs.length (xs.reverse.map (Value.int .i64)) ∧ w.grownBy w' (some g) := by
  obtain ⟨n, hn⟩ : ∃ n, n = xs.length := ⟨_, rfl⟩
  have HN := Lib.hid hn
  have h0 := mix_zero xs
  rw [← hn] at hl hl0 ho ⊢
  have HO := Lib.hid ho
  clear hn ho
  go_enter Tryd.func17, Tryd.ntmps17
  go_wp2_with fail
  go_loopw [2, 3] (fun i jj wr => ∃ k j : Nat, i = .int .i64 k ∧ jj = .int .i64 j ∧ j + k + 1 = n ∧ k ≤ j + 1 ∧ wr.ownsRow B 3 1 (.slice (some ⟨g, 0, none⟩) n cap) n ((mix xs k).map (Value.int .i64)) ∧ w.grownBy wr (some g)) (fun i _ _ => n - (intOf i).toNat)
  case atStart => exact ⟨0, n - 1, rfl, by go_num, by omega, by omega, by rw [h0]; exact HO.out, World.grownBy.refl _ _⟩
  case round =>
    obtain ⟨k, j, rfl, rfl, hjk, hkj, hown, hg⟩ := hrel
    by_cases hlt : k < j
    · have hx : wr.cell? ⟨g, k, none⟩ = some (.int .i64 (xs.getD k 0)) := by rw [hown.cellAt k (by omega), List.getElem?_map, mix_low xs k (by rw [← HN.out]; omega)]; rfl
      have hy : wr.cell? ⟨g, j, none⟩ = some (.int .i64 (xs.getD j 0)) := by rw [hown.cellAt j (by omega), List.getElem?_map, mix_high xs k j (by rw [← HN.out]; omega) (by rw [← HN.out]; omega)]; rfl
      have hfx := hown.frozenAt k
      have hfy := hown.frozenAt j
      have s1 := hown.stored k (.int .i64 (xs.getD j 0))
      have s2 := s1.1.stored j (.int .i64 (xs.getD k 0))
      have hst := mix_step xs k j (by rw [← HN.out]; omega) (by rw [← HN.out]; omega)
      rw [← List.map_set, ← List.map_set, hst] at s2
      have HG := Lib.hid (grownBy_trans (grownBy_trans hg s1.2) s2.2)
      have HS := Lib.hid s2.1
      obtain ⟨x, hxx⟩ : ∃ x, x = xs.getD k 0 := ⟨_, rfl⟩
      obtain ⟨y, hyy⟩ : ∃ y, y = xs.getD j 0 := ⟨_, rfl⟩
      rw [← hxx] at hx HG HS
      rw [← hyy] at hy HG HS
      clear s1 s2 hst hxx hyy hown hg
      go_wp2_with fail
      go_region
      go_wp2_with fail
      go_roundw
      case rel => exact ⟨k + 1, j - 1, by go_num, by go_num, by omega, by omega, HS.out, grown_drew HG.out⟩
      case measure => simp [intOf]; omega
    · go_wp2_with fail
      go_end0
      refine ⟨rfl, ?_, hg⟩
      rw [← mix_end xs k (by rw [← HN.out]; omega)]
      exact hown
end Go.Proofs.YtnbnfgljbhidbaaDoor
