/- Rules as cells; rules of the call's own. No conditions. -/
import Derived.Test.YtpmfpegjkfnnkaaDoorRules
namespace Go.Mine
open Go Go.RowKit

def rcells : List Rl → List Value
  | [] => []
  | r :: rs => .slice r.sa r.when.length r.cap :: .int .i64 r.to :: rcells rs
theorem rcells_len : ∀ rs : List Rl, (rcells rs).length = rs.length * 2
  | [] => rfl
  | _ :: rs => by simp only [rcells, List.length_cons, rcells_len rs]; omega
theorem rcells_append : ∀ rs ss : List Rl, rcells (rs ++ ss) = rcells rs ++ rcells ss
  | [], _ => rfl
  | _ :: rs, ss => by simp [rcells, rcells_append rs ss]
theorem rcells_one : ∀ rs : List Rl, ∀ u ∈ rcells rs, u.oneCell' = true
  | [], u, h => by simp [rcells] at h
  | r :: rs, u, h => by
    simp only [rcells, List.mem_cons] at h
    rcases h with rfl | rfl | h
    · rfl
    · rfl
    · exact rcells_one rs u h
theorem rcells_fst : ∀ (rs : List Rl) (j : Nat), j < rs.length → (rcells rs)[j * 2]? = some (.slice (rs.getD j default).sa (rs.getD j default).when.length (rs.getD j default).cap)
  | r :: rs, 0, _ => rfl
  | r :: rs, j + 1, h => by
    have := rcells_fst rs j (by simpa using h)
    rw [show (j + 1) * 2 = j * 2 + 1 + 1 by omega]
    simpa [rcells] using this
theorem rcells_snd : ∀ (rs : List Rl) (j : Nat), j < rs.length → (rcells rs)[j * 2 + 1]? = some (.int .i64 (rs.getD j default).to)
  | r :: rs, 0, _ => rfl
  | r :: rs, j + 1, h => by
    have := rcells_snd rs j (by simpa using h)
    rw [show (j + 1) * 2 + 1 = j * 2 + 1 + 1 + 1 by omega]
    simpa [rcells] using this
theorem RulesAt.of_owns {w : World} {base : Nat} {e : TypeId} {ao : Option Addr} {n cap : Nat} {rs : List Rl} (h : w.ownsRow base e 2 (.slice ao n cap) n (rcells rs)) (hi : ∀ r ∈ rs, IntsAt .i64 w r.sa r.when ∧ r.when.length ≤ maxLen) : RulesAt w ao rs := by
  intro j hj
  have hl := h.1
  rw [rcells_len] at hl
  have hm : rs.getD j default ∈ rs := by simp [hj]
  rcases h.2 with ⟨h1, h2⟩ | ⟨g, cap', cur, h1, _⟩
  · omega
  · simp only [Value.slice.injEq] at h1
    obtain ⟨rfl, _, rfl⟩ := h1
    refine ⟨g, 0, rfl, ?_, ?_, (hi _ hm).1, (hi _ hm).2⟩
    · rw [Nat.zero_add, h.cellAt _ (by omega), rcells_fst rs j hj]
    · rw [Nat.zero_add, h.cellAt _ (by omega), rcells_snd rs j hj]
theorem RulesAt.ints {w : World} {ao : Option Addr} {rs : List Rl} (h : RulesAt w ao rs) {r : Rl} (hr : r ∈ rs) : IntsAt .i64 w r.sa r.when ∧ r.when.length ≤ maxLen := by
  obtain ⟨j, hj, rfl⟩ := List.mem_iff_getElem.1 hr
  obtain ⟨b, o, _, _, _, h4, h5⟩ := h j hj
  have e : rs.getD j default = rs[j] := by simp [hj]
  rw [e] at h4 h5
  exact ⟨h4, h5⟩
end Go.Mine
