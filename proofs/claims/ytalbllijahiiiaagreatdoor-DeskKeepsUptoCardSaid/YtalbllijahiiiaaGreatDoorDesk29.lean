/- A tape's place falls along less. -/
import Derived.Test.YtalbllijahiiiaaGreatDoorDesk28
namespace Go.Proofs.YtalbllijahiiiaaGreatDoor
open Go.RowKit Go.Mine Go.Mine.Desk

def digs (acc : Nat) (l : List Int) : Nat := l.foldl (fun acc x => acc * 1002 + x.toNat) acc
def tape1 (l : List Int) : Prop := ∀ x ∈ l, 0 ≤ x ∧ x ≤ 1000
theorem digs_lt : ∀ (a b : List Int) (p q : Nat), a.length = b.length → tape1 a → p < q → digs p a < digs q b
  | [], [], p, q, _, _, h => h
  | [], _ :: _, _, _, h, _, _ => by simp at h
  | _ :: _, [], _, _, h, _, _ => by simp at h
  | x :: a, y :: b, p, q, hl, ha, h => by
    refine digs_lt a b (p * 1002 + x.toNat) (q * 1002 + y.toNat) (by simpa using hl) (fun z hz => ha z (List.mem_cons_of_mem _ hz)) ?_
    have := ha x List.mem_cons_self
    omega
theorem digs_lex : ∀ (a b : List Int) (p : Nat), a.length = b.length → tape1 a → tape1 b → lexLt a b = true → digs p a < digs p b
  | [], _, p, _, _, _, h => by simp [lexLt] at h
  | _ :: _, [], p, h, _, _, _ => by simp at h
  | x :: a, y :: b, p, hl, ha, hb, h => by
    rw [lexLt] at h
    have hx := ha x List.mem_cons_self
    have hy := hb y List.mem_cons_self
    by_cases e : x = y
    · subst e
      rw [if_pos rfl] at h
      exact digs_lex a b (p * 1002 + x.toNat) (by simpa using hl) (fun z hz => ha z (List.mem_cons_of_mem _ hz)) (fun z hz => hb z (List.mem_cons_of_mem _ hz)) h
    · rw [if_neg e] at h
      have h' : x < y := by simpa using h
      exact digs_lt a b (p * 1002 + x.toNat) (p * 1002 + y.toNat) (by simpa using hl) (fun z hz => ha z (List.mem_cons_of_mem _ hz)) (by omega)
theorem digs_bound : ∀ (l : List Int) (p : Nat), tape1 l → digs p l < (p + 1) * 1002 ^ l.length
  | [], p, _ => by simp [digs]
  | x :: l, p, h => by
    have ih := digs_bound l (p * 1002 + x.toNat) (fun z hz => h z (List.mem_cons_of_mem _ hz))
    have hx := h x List.mem_cons_self
    refine Nat.lt_of_lt_of_le ih ?_
    rw [List.length_cons, Nat.pow_succ, Nat.mul_comm (1002 ^ l.length) 1002, ← Nat.mul_assoc]
    exact Nat.mul_le_mul_right _ (by omega)
theorem place_lt {a b : List Int} (ha : tape1 a) (hb : tape1 b) (hl : a.length ≤ 6) (h : tapeLt a b = true) : place a < place b := by
  unfold tapeLt at h
  show a.length * 1002 ^ 6 + digs 0 a < b.length * 1002 ^ 6 + digs 0 b
  by_cases e : a.length = b.length
  · rw [if_pos e] at h
    have := digs_lex a b 0 e ha hb h
    rw [e]
    omega
  · rw [if_neg e] at h
    have h' : a.length < b.length := by simpa using h
    have h1 := digs_bound a 0 ha
    have h2 : 1002 ^ a.length ≤ 1002 ^ 6 := Nat.pow_le_pow_right (by omega) hl
    have h3 : (a.length + 1) * 1002 ^ 6 ≤ b.length * 1002 ^ 6 := Nat.mul_le_mul_right _ (by omega)
    rw [Nat.succ_mul] at h3
    omega
end Go.Proofs.YtalbllijahiiiaaGreatDoor
