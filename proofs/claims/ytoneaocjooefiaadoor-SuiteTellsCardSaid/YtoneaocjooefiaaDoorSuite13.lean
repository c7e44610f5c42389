/- LeastTests' plain law: the best of all sets of places. -/
import Derived.Test.YtoneaocjooefiaaDoorSuite12
namespace Go.Proofs.YtoneaocjooefiaaDoor
open Go.RowKit Go.Mine Go.Mine.Suite

theorem sub_eq' {ts l : List Nat} : Sub (orAll ts) (orAt ts l) ↔ orAt ts l = orAll ts := by
  constructor
  · intro h
    refine Nat.eq_of_testBit_eq fun i => ?_
    rw [Bool.eq_iff_iff]
    exact ⟨fun h' => orAt_sub h', fun h' => h i h'⟩
  · intro h; rw [h]; exact fun i hi => hi
theorem nat_rise_ext : ∀ {a b : List Nat}, a.Pairwise (· < ·) → b.Pairwise (· < ·) → (∀ x, x ∈ a ↔ x ∈ b) → a = b
  | [], [], _, _, _ => rfl
  | [], y :: b, _, _, h => absurd ((h y).2 List.mem_cons_self) (by simp)
  | x :: a, [], _, _, h => absurd ((h x).1 List.mem_cons_self) (by simp)
  | x :: a, y :: b, ha, hb, h => by
    have ha' := List.pairwise_cons.1 ha
    have hb' := List.pairwise_cons.1 hb
    have e : x = y := by
      rcases List.mem_cons.1 ((h x).1 List.mem_cons_self) with e | h1
      · exact e
      · rcases List.mem_cons.1 ((h y).2 List.mem_cons_self) with e | h2
        · exact e.symm
        · have := hb'.1 x h1; have := ha'.1 y h2; omega
    subst e
    refine congrArg _ (nat_rise_ext ha'.2 hb'.2 fun z => ⟨fun hz => ?_, fun hz => ?_⟩)
    · rcases List.mem_cons.1 ((h z).1 (List.mem_cons_of_mem _ hz)) with e | h'
      · have := ha'.1 z hz; omega
      · exact h'
    · rcases List.mem_cons.1 ((h z).2 (List.mem_cons_of_mem _ hz)) with e | h'
      · have := hb'.1 z hz; omega
      · exact h'
def maskOf : List Nat → Nat
  | [] => 0
  | i :: c => maskOf c ||| 2 ^ i
theorem mask_bit : ∀ (c : List Nat) (j : Nat), (maskOf c).testBit j = decide (j ∈ c)
  | [], j => by simp [maskOf]
  | i :: c, j => by
    rw [maskOf, Nat.testBit_or, mask_bit c j, Nat.testBit_two_pow, Bool.eq_iff_iff]
    simp only [Bool.or_eq_true, decide_eq_true_eq, List.mem_cons]
    exact ⟨fun h => h.elim .inr fun h => .inl h.symm, fun h => h.elim (fun h => .inr h.symm) .inl⟩
theorem mask_lt {c : List Nat} {n : Nat} (h : ∀ i ∈ c, i < n) : maskOf c < 2 ^ n := Nat.lt_pow_two_of_testBit _ fun i hi => by
  rw [mask_bit, decide_eq_false_iff_not]
  intro hc
  have := h i hc
  omega
theorem places_mask {c : List Nat} (hr : c.Pairwise (· < ·)) (h : ∀ i ∈ c, i < 32) : places (maskOf c) = c := nat_rise_ext (places_rise _) hr fun x => by
  unfold places
  rw [List.mem_filter, mask_bit, decide_eq_true_eq, List.mem_range]
  exact ⟨fun h => h.2, fun hc => ⟨h x hc, hc⟩⟩
def lexLtB : List Nat → List Nat → Bool
  | a :: r1, b :: r2 => if a = b then lexLtB r1 r2 else decide (a < b)
  | _, _ => false
def shorterB (a b : List Nat) : Bool := if a.length = b.length then lexLtB a b else decide (a.length < b.length)
theorem lexLtB_le : ∀ {a b : List Nat}, a.length = b.length → (lexLtB a b = true → lexLe a b) ∧ (lexLtB a b = false → lexLe b a)
  | [], [], _ => ⟨fun _ => trivial, fun _ => trivial⟩
  | a :: r1, b :: r2, hl => by
    have ih := lexLtB_le (a := r1) (b := r2) (by simpa using hl)
    by_cases e : a = b
    · subst e
      simp only [lexLtB, if_true, lexLe]
      exact ⟨fun h => .inr ⟨trivial, ih.1 h⟩, fun h => .inr ⟨trivial, ih.2 h⟩⟩
    · simp only [lexLtB, if_neg e, lexLe, decide_eq_true_eq, decide_eq_false_iff_not]
      exact ⟨fun h => .inl h, fun h => .inl (by omega)⟩
theorem lexLe_trans : ∀ {a b c : List Nat}, lexLe a b → lexLe b c → lexLe a c
  | [], _, _, _, _ => trivial
  | a :: r1, [], _, h, _ => h.elim
  | a :: r1, b :: r2, [], _, h => h.elim
  | a :: r1, b :: r2, c :: r3, h1, h2 => by
    simp only [lexLe] at h1 h2 ⊢
    rcases h1 with h1 | ⟨rfl, h1⟩
    · rcases h2 with h2 | ⟨rfl, h2⟩
      · exact .inl (by omega)
      · exact .inl h1
    · rcases h2 with h2 | ⟨rfl, h2⟩
      · exact .inl h2
      · exact .inr ⟨rfl, lexLe_trans h1 h2⟩
def Good (a b : List Nat) : Prop := a.length ≤ b.length ∧ (a.length = b.length → lexLe a b)
theorem Good.trans {a b c : List Nat} (h1 : Good a b) (h2 : Good b c) : Good a c := by
  obtain ⟨p1, q1⟩ := h1
  obtain ⟨p2, q2⟩ := h2
  exact ⟨by omega, fun h => lexLe_trans (q1 (by omega)) (q2 (by omega))⟩
theorem shorterB_good (a b : List Nat) : (shorterB a b = true → Good a b) ∧ (shorterB a b = false → Good b a) := by
  unfold shorterB
  by_cases e : a.length = b.length
  · rw [if_pos e]
    exact ⟨fun h => ⟨by omega, fun _ => (lexLtB_le e).1 h⟩, fun h => ⟨by omega, fun _ => (lexLtB_le e).2 h⟩⟩
  · rw [if_neg e, decide_eq_true_eq, decide_eq_false_iff_not]
    exact ⟨fun h => ⟨by omega, fun h => by omega⟩, fun h => ⟨by omega, fun h => by omega⟩⟩
/-- What the search holds at which. -/
structure LInv (ts : List Nat) (w : Nat) (b : List Nat) : Prop where
  rise : b.Pairwise (· < ·)
  lt : ∀ i ∈ b, i < ts.length
  enough : Sub (orAll ts) (orAt ts b)
  least : ∀ w', w' < w → passN ts w' ts.length = orAll ts → Good b (places w')
theorem pass_places {ts : List Nat} (hl : ts.length ≤ 12) {w : Nat} (hw : w < 2 ^ ts.length) : passN ts w ts.length = orAt ts (places w) ∧ ∀ i ∈ places w, i < ts.length := by
  have h1 := passN_at (w := w) (show ts.length ≤ 32 by omega)
  have h2 := places_lt (w := w) (n := ts.length)
  rw [Nat.mod_eq_of_lt hw] at h1 h2
  exact ⟨h1, h2⟩
theorem LInv.start {ts : List Nat} (hl : ts.length ≤ 12) : LInv ts 0 (places (2 ^ ts.length - 1)) := by
  have hp : 2 ^ ts.length - 1 < 2 ^ ts.length := Nat.sub_lt (Nat.two_pow_pos _) (by decide)
  obtain ⟨h1, h2⟩ := pass_places hl hp
  rw [pass_pow] at h1
  exact ⟨places_rise _, h2, sub_eq'.2 h1.symm, fun w' h => by omega⟩
theorem LInv.take {ts : List Nat} (hl : ts.length ≤ 12) {w : Nat} {b : List Nat} (h : LInv ts w b) (hw : w < 2 ^ ts.length) (hp : passN ts w ts.length = orAll ts) (hs : shorterB (places w) b = true) : LInv ts (w + 1) (places w) := by
  obtain ⟨h1, h2⟩ := pass_places hl hw
  have hg := (shorterB_good (places w) b).1 hs
  refine ⟨places_rise _, h2, sub_eq'.2 (h1.symm.trans hp), fun w' hw' hp' => ?_⟩
  by_cases e : w' = w
  · subst e; exact ⟨Nat.le_refl _, fun _ => lexLe_refl _⟩
  · exact hg.trans (h.least w' (by omega) hp')
theorem LInv.keep {ts : List Nat} {w : Nat} {b : List Nat} (h : LInv ts w b) (hs : passN ts w ts.length = orAll ts → shorterB (places w) b = false) : LInv ts (w + 1) b := by
  refine ⟨h.rise, h.lt, h.enough, fun w' hw' hp' => ?_⟩
  by_cases e : w' = w
  · subst e; exact (shorterB_good (places w') b).2 (hs hp')
  · exact h.least w' (by omega) hp'
theorem LInv.few {ts : List Nat} (hl : ts.length ≤ 12) {b : List Nat} (h : LInv ts (2 ^ ts.length) b) : Fewest ts b := by
  refine ⟨h.rise, h.lt, h.enough, fun c hr hc hs => ?_⟩
  have hm := mask_lt hc
  have hpl := places_mask hr (fun i hi => by have := hc i hi; omega)
  obtain ⟨h1, _⟩ := pass_places hl hm
  rw [hpl] at h1
  have hg := h.least _ hm (by rw [h1]; exact sub_eq'.1 hs)
  rw [hpl] at hg
  exact hg
end Go.Proofs.YtoneaocjooefiaaDoor
