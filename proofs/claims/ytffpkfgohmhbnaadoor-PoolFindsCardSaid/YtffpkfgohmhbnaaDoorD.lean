/- PoolFinds: how many asks, and what is found: plain numbers. -/
import Derived.Test.YtffpkfgohmhbnaaDoorPool1
import Derived.Test.YtffpkfgohmhbnaaDoorSortP
namespace Go.Proofs.YtffpkfgohmhbnaaDoor
open Go.RowKit Go.Mine

/-- The answer is whether one that is so lies within. -/
def Tru (so : List Int) (a b : Int) (c : Bool) : Prop := c = true ↔ ∃ x, a ≤ x ∧ x < b ∧ x ∈ so
theorem Lk.few {so : List Int} : ∀ {f : Nat} {a b : Int} {L : List Int} {k : Nat}, Lk (Tru so) f a b L k → a ≤ b → b - a < f → ∀ h : Nat, b - a ≤ ((2 ^ h : Nat) : Int) → k ≤ 1 + 2 * (L.length * h)
  | 0, a, b, L, k, h, hab, hf => by omega
  | f + 1, a, b, L, k, h, hab, hf => by
    intro m hm
    have hme := h.mem (fun x => x ∈ so) (fun a b c h => h) hab hf
    rcases h with ⟨rfl, rfl, rfl⟩ | ⟨h1, ha, rfl, rfl⟩ | ⟨h1, ha, rfl, rfl⟩ | ⟨h1, ha, L1, L2, k1, k2, h2, h3, rfl, rfl⟩
    · omega
    · simp
    · omega
    · obtain ⟨x, x1, x2, x3⟩ := ha.1 rfl
      have hpos : 0 < (L1 ++ L2).length := List.length_pos_of_mem ((hme x).2 ⟨x1, x2, x3⟩)
      cases m with
      | zero => simp at hm; omega
      | succ m =>
        have hp : ((2 ^ (m + 1) : Nat) : Int) = 2 * ((2 ^ m : Nat) : Int) := by rw [Nat.pow_succ]; omega
        rw [hp] at hm
        have i1 := h2.few (by omega) (by omega) m (by omega)
        have i2 := h3.few (by omega) (by omega) m (by omega)
        rw [List.length_append] at hpos ⊢
        have e1 : (L1.length + L2.length) * (m + 1) = L1.length * m + L2.length * m + (L1.length + L2.length) := by rw [Nat.mul_add, Nat.mul_one, Nat.add_mul]
        rw [e1]
        omega

/-- The first k numbers that are so. -/
structure Fnd (so : List Int) (k : Int) (ws : List Int) : Prop where
  rise : Rise ws
  mem : ∀ y, y ∈ ws ↔ (0 ≤ y ∧ y < k ∧ y ∈ so)
theorem Fnd.start (so : List Int) : Fnd so 0 [] := ⟨by simp [Rise], fun y => by simp; omega⟩
theorem Fnd.skip {so : List Int} {k : Int} {ws : List Int} (h : Fnd so k ws) (hn : k ∉ so) : Fnd so (k + 1) ws := ⟨h.rise, fun y => by
  rw [h.mem]
  constructor
  · rintro ⟨h1, h2, h3⟩; exact ⟨h1, by omega, h3⟩
  · rintro ⟨h1, h2, h3⟩
    by_cases e : y = k
    · subst e; exact absurd h3 hn
    · exact ⟨h1, by omega, h3⟩⟩
theorem Fnd.push {so : List Int} {k : Int} {ws : List Int} (h : Fnd so k ws) (h0 : 0 ≤ k) (hn : k ∈ so) : Fnd so (k + 1) (ws ++ [k]) := ⟨by
  unfold Rise
  rw [List.pairwise_append]
  exact ⟨h.rise, by simp, fun a ha b hb => by simp at hb; subst hb; exact ((h.mem a).1 ha).2.1⟩, fun y => by
  rw [List.mem_append, h.mem, List.mem_singleton]
  constructor
  · rintro (⟨h1, h2, h3⟩ | rfl)
    · exact ⟨h1, by omega, h3⟩
    · exact ⟨h0, by omega, hn⟩
  · rintro ⟨h1, h2, h3⟩
    by_cases e : y = k
    · exact .inr e
    · exact .inl ⟨h1, by omega, h3⟩⟩
theorem found {so : List Int} {n : Nat} {L ws : List Int} {k : Nat} (h : Lk (Tru so) (n + 1) 0 n L k) (hw : Fnd so n ws) : L = ws :=
  rise_ext (h.within (by omega)).2 hw.rise fun x => by
    rw [h.mem (fun x => x ∈ so) (fun a b c h => h) (by omega) (by omega), hw.mem]
/-- How many halvings till nothing is left. -/
theorem half_pow {m c n : Nat} (h : n < (m + 1) * 2 ^ c) : n < (m / 2 + 1) * 2 ^ (c + 1) := by
  rw [Nat.pow_succ, Nat.mul_comm (2 ^ c) 2, ← Nat.mul_assoc]
  exact Nat.lt_of_lt_of_le h (Nat.mul_le_mul_right _ (by omega))
end Go.Proofs.YtffpkfgohmhbnaaDoor
