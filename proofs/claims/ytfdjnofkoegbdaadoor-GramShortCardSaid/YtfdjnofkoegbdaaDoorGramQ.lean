/- The grammar of the words that are the same from behind. Plain lists, no program. -/
import Derived.Test.YtfdjnofkoegbdaaDoorGramP
namespace Go.Mine.Gram
open Go Go.RowKit Go.Mine

def palsG : List (List (List Int)) := [[[], [0], [1], [0, -1, 0], [1, -1, 1]]]
/-- The piece from a to b is the same from behind, of two letters. -/
def Pal (w : List Int) (a b : Nat) : Prop := ∀ i, a ≤ i → i < b → w.getD i 0 = w.getD (a + b - 1 - i) 0 ∧ (w.getD i 0 = 0 ∨ w.getD i 0 = 1)
theorem pal_sound (w : List Int) {a b : Nat} (ha : a ≤ w.length) (h : Mk palsG w 0 a b) : Pal w a b := by
  have hc : Closed palsG w (fun _ a b => Pal w a b) := by
    intro i hi r hr a b ha hs
    obtain rfl : i = 0 := by simp [palsG] at hi; omega
    have hmid : ∀ x : Int, (x = 0 ∨ x = 1) → Spn (fun _ a b => Pal w a b) w [x, -1, x] a b → Pal w a b := by
      rintro x hx ⟨c1, h1, c2, h2, c3, h3, h4⟩
      have e4 : c3 = b := h4
      subst e4
      rcases h1 with ⟨_, e1, _, l1⟩ | ⟨h, _⟩
      · subst e1
        rcases h2 with ⟨h, _⟩ | ⟨_, g1, g2, hp⟩
        · omega
        · rcases h3 with ⟨_, e3, _, l3⟩ | ⟨h, _⟩
          · subst e3
            intro i hi1 hi2
            by_cases e : i = a
            · subst e
              rw [l1, show i + (c2 + 1) - 1 - i = c2 by omega, l3]
              exact ⟨rfl, hx⟩
            · by_cases e' : i = c2
              · subst e'
                rw [l3, show a + (i + 1) - 1 - i = a by omega, l1]
                exact ⟨rfl, hx⟩
              · have := hp i (by omega) (by omega)
                rw [show a + 1 + c2 - 1 - i = a + (c2 + 1) - 1 - i by omega] at this
                exact this
          · omega
      · omega
    have hone : ∀ x : Int, (x = 0 ∨ x = 1) → Spn (fun _ a b => Pal w a b) w [x] a b → Pal w a b := by
      rintro x hx ⟨c1, h1, h4⟩
      have e4 : c1 = b := h4
      subst e4
      rcases h1 with ⟨_, e1, _, l1⟩ | ⟨h, _⟩
      · subst e1
        intro i hi1 hi2
        obtain rfl : i = a := by omega
        rw [show i + (i + 1) - 1 - i = i by omega]
        exact ⟨rfl, by rw [l1]; exact hx⟩
      · omega
    simp only [palsG, List.getD_cons_zero, List.mem_cons, List.not_mem_nil, or_false] at hr
    rcases hr with rfl | rfl | rfl | rfl | rfl
    · have e : a = b := hs
      subst e
      intro i h1 h2
      omega
    · exact hone 0 (.inl rfl) hs
    · exact hone 1 (.inr rfl) hs
    · exact hmid 0 (.inl rfl) hs
    · exact hmid 1 (.inr rfl) hs
  exact h _ hc
theorem pal_makes (w : List Int) : ∀ (n a b : Nat), b = a + n → b ≤ w.length → Pal w a b → Mk palsG w 0 a b := by
  intro n
  induction n using Nat.strongRecOn with
  | _ n ih =>
    intro a b hb hl hp
    have hcl := Mk.closed palsG w 0 (by decide)
    by_cases h0 : n = 0
    · subst h0
      exact hcl [] (by decide) a b (by omega) (show a = b by omega)
    · have h1 := hp a (by omega) (by omega)
      by_cases hn1 : n = 1
      · subst hn1
        have hs : ∀ x : Int, (x = 0 ∨ x = 1) → w.getD a 0 = x → Spn (Mk palsG w) w [x] a b := fun x hx e => ⟨b, .inl ⟨by omega, hb, by omega, e⟩, rfl⟩
        rcases h1.2 with e | e
        · exact hcl [0] (by decide) a b (by omega) (hs 0 (.inl rfl) e)
        · exact hcl [1] (by decide) a b (by omega) (hs 1 (.inr rfl) e)
      · have hin : Mk palsG w 0 (a + 1) (b - 1) := ih (n - 2) (by omega) (a + 1) (b - 1) (by omega) (by omega) (fun i h2 h3 => by
          have := hp i (by omega) (by omega)
          rw [show a + 1 + (b - 1) - 1 - i = a + b - 1 - i by omega]
          exact this)
        have e2 : w.getD (b - 1) 0 = w.getD a 0 := by
          rw [h1.1, show a + b - 1 - a = b - 1 by omega]
        have hs : ∀ x : Int, (x = 0 ∨ x = 1) → w.getD a 0 = x → Spn (Mk palsG w) w [x, -1, x] a b := fun x hx e =>
          ⟨a + 1, .inl ⟨by omega, rfl, by omega, e⟩, b - 1, .inr ⟨by omega, by omega, by omega, hin⟩, b, .inl ⟨by omega, by omega, by omega, e2.trans e⟩, rfl⟩
        rcases h1.2 with e | e
        · exact hcl [0, -1, 0] (by decide) a b (by omega) (hs 0 (.inl rfl) e)
        · exact hcl [1, -1, 1] (by decide) a b (by omega) (hs 1 (.inr rfl) e)
theorem pals_word (w : List Int) : Word palsG w ↔ Pal w 0 w.length :=
  ⟨fun h => pal_sound w (Nat.zero_le _) h, fun h => pal_makes w w.length 0 w.length (by omega) (Nat.le_refl _) h⟩
theorem pals_ok : gok palsG := gfault_zero.1 (by decide)
theorem word_010 : Word palsG [0, 1, 0] := (pals_word _).2 (fun i _ h => by
  have h3 : i < 3 := h
  rcases (show i = 0 ∨ i = 1 ∨ i = 2 by omega) with rfl | rfl | rfl <;> simp)
theorem word_01 : ¬ Word palsG [0, 1] := fun h => by
  have := ((pals_word _).1 h 0 (Nat.le_refl _) (by simp)).1
  simp at this
end Go.Mine.Gram
