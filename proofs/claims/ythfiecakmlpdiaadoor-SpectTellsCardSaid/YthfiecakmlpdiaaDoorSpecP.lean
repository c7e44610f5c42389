/- Counts by line: plain numbers, no program. -/
namespace Go.Mine.Spec

/-- Which of the four: fails and covers, fails and does not, passes and covers, passes and does not. -/
def cls (ts : List Nat) (fs : List Bool) (x i : Nat) : Nat := (if (ts.getD i 0).testBit x then 0 else 1) + (if fs.getD i false then 0 else 2)
def cK (ts : List Nat) (fs : List Bool) (x k : Nat) : Nat → Nat
  | 0 => 0
  | j + 1 => cK ts fs x k j + if cls ts fs x j = k then 1 else 0
def bad (fs : List Bool) : Nat → Nat
  | 0 => 0
  | j + 1 => bad fs j + if fs.getD j false then 1 else 0
theorem cls_lt (ts : List Nat) (fs : List Bool) (x i : Nat) : cls ts fs x i < 4 := by
  unfold cls; split <;> split <;> omega
theorem cK_bad (ts : List Nat) (fs : List Bool) (x : Nat) : ∀ j, cK ts fs x 0 j + cK ts fs x 1 j = bad fs j
  | 0 => rfl
  | j + 1 => by
    have h := cK_bad ts fs x j
    unfold cK bad cls
    cases (ts.getD j 0).testBit x <;> cases fs.getD j false <;> simp <;> omega
theorem cK_all (ts : List Nat) (fs : List Bool) (x : Nat) : ∀ j, cK ts fs x 0 j + cK ts fs x 1 j + cK ts fs x 2 j + cK ts fs x 3 j = j
  | 0 => rfl
  | j + 1 => by
    have h := cK_all ts fs x j
    unfold cK cls
    cases (ts.getD j 0).testBit x <;> cases fs.getD j false <;> simp <;> omega
theorem cK_le (ts : List Nat) (fs : List Bool) (x k : Nat) : ∀ j, cK ts fs x k j ≤ j
  | 0 => Nat.le_refl _
  | j + 1 => by have h := cK_le ts fs x k j; unfold cK; split <;> omega
/-- Line x's four numbers behind j tests. -/
def row4 (ts : List Nat) (fs : List Bool) (j x : Nat) : List Int := [cK ts fs x 0 j, cK ts fs x 1 j, cK ts fs x 2 j, cK ts fs x 3 j].map fun n : Nat => (n : Int)
def rows4 (ts : List Nat) (fs : List Bool) : Nat → List (List Int)
  | 0 => []
  | x + 1 => rows4 ts fs x ++ [row4 ts fs ts.length x]
theorem rows4_len (ts : List Nat) (fs : List Bool) : ∀ n, (rows4 ts fs n).length = n
  | 0 => rfl
  | n + 1 => by rw [rows4, List.length_append, rows4_len ts fs n]; rfl
theorem rows4_get (ts : List Nat) (fs : List Bool) (x : Nat) : ∀ n, x < n → (rows4 ts fs n).getD x [] = row4 ts fs ts.length x
  | 0, h => by omega
  | n + 1, h => by
    rw [rows4]
    by_cases e : x < n
    · have := rows4_get ts fs x n e
      simp only [List.getD_eq_getElem?_getD] at this ⊢
      rw [List.getElem?_append_left (by rw [rows4_len]; exact e)]
      exact this
    · obtain rfl : x = n := by omega
      simp [List.getD_eq_getElem?_getD, rows4_len]
theorem row4_four (ts : List Nat) (fs : List Bool) (j x : Nat) : (row4 ts fs j x).length = 4 := rfl
end Go.Mine.Spec
