/- Words, fewest letters first, then letter by letter. Plain lists, no program. -/
import Derived.Test.YtfdjnofkoegbdaaDoorGramP
namespace Go.Mine.Gram
open Go Go.RowKit Go.Mine

/-- A word is less: shorter, or as long and less at the first place where they differ. -/
def Lex : List Int → List Int → Prop
  | x :: xs, y :: ys => x < y ∨ (x = y ∧ Lex xs ys)
  | _, _ => False
def Less (a b : List Int) : Prop := a.length < b.length ∨ (a.length = b.length ∧ Lex a b)
theorem lex_snoc_lt : ∀ {a b : List Int} {x y : Int}, a.length = b.length → Lex a b → Lex (a ++ [x]) (b ++ [y])
  | [], [], _, _, _, h => h.elim
  | [], _ :: _, _, _, h, _ => by simp at h
  | _ :: _, [], _, _, h, _ => by simp at h
  | u :: a, v :: b, x, y, hl, h => by
    rcases h with h | ⟨h1, h2⟩
    · exact .inl h
    · exact .inr ⟨h1, lex_snoc_lt (by simpa using hl) h2⟩
theorem lex_snoc_same : ∀ {a : List Int} {x y : Int}, x < y → Lex (a ++ [x]) (a ++ [y])
  | [], _, _, h => .inl h
  | _ :: a, _, _, h => .inr ⟨rfl, lex_snoc_same (a := a) h⟩
theorem lex_irrefl : ∀ {a : List Int}, ¬ Lex a a
  | [], h => h
  | _ :: _, h => by
    rcases h with h | ⟨_, h⟩
    · omega
    · exact lex_irrefl h
theorem lex_trans : ∀ {a b c : List Int}, Lex a b → Lex b c → Lex a c
  | [], _, _, h, _ => by simp [Lex] at h
  | _ :: _, [], _, h, _ => by simp [Lex] at h
  | _ :: _, _ :: _, [], _, h => by simp [Lex] at h
  | x :: a, y :: b, z :: c, h1, h2 => by
    rcases h1 with h1 | ⟨e1, h1⟩
    · rcases h2 with h2 | ⟨e2, h2⟩
      · exact .inl (by omega)
      · exact .inl (by omega)
    · rcases h2 with h2 | ⟨e2, h2⟩
      · exact .inl (by omega)
      · exact .inr ⟨by omega, lex_trans h1 h2⟩
theorem less_irrefl {a : List Int} : ¬ Less a a := by
  rintro (h | ⟨_, h⟩)
  · omega
  · exact lex_irrefl h
theorem less_trans {a b c : List Int} (h1 : Less a b) (h2 : Less b c) : Less a c := by
  rcases h1 with h1 | ⟨e1, h1⟩
  · rcases h2 with h2 | ⟨e2, h2⟩
    · exact .inl (by omega)
    · exact .inl (by omega)
  · rcases h2 with h2 | ⟨e2, h2⟩
    · exact .inl (by omega)
    · exact .inr ⟨by omega, lex_trans h1 h2⟩
theorem less_snoc {a b : List Int} {x y : Int} (h : Less a b) : Less (a ++ [x]) (b ++ [y]) := by
  rcases h with h | ⟨e, h⟩
  · exact .inl (by simp; omega)
  · exact .inr ⟨by simp [e], lex_snoc_lt e h⟩
theorem less_snoc_same {a : List Int} {x y : Int} (h : x < y) : Less (a ++ [x]) (a ++ [y]) := .inr ⟨by simp, lex_snoc_same h⟩

/-- What follows of a word: one letter more, the first m of three. -/
def chk (n : Nat) (w : List Int) (m : Nat) : List (List Int) := if w.length < n then (List.range m).map (fun x : Nat => w ++ [(x : Int)]) else []
theorem chk_zero (n : Nat) (w : List Int) : chk n w 0 = [] := by unfold chk; split <;> simp
theorem chk_succ {n : Nat} {w : List Int} (h : w.length < n) (m : Nat) : chk n w (m + 1) = chk n w m ++ [w ++ [(m : Int)]] := by
  unfold chk
  rw [if_pos h, if_pos h, List.range_succ, List.map_append]
  rfl
theorem chk_none {n : Nat} {w : List Int} (h : ¬ w.length < n) (m : Nat) : chk n w m = [] := by unfold chk; rw [if_neg h]
/-- How many words follow of one, itself too; d letters may still come. -/
def wt : Nat → Nat
  | 0 => 1
  | d + 1 => 1 + 3 * wt d
def wts (n : Nat) (Q : List (List Int)) : Nat := (Q.map fun w => wt (n - w.length)).sum
theorem wt_pos : ∀ d, 1 ≤ wt d
  | 0 => Nat.le_refl _
  | d + 1 => by unfold wt; omega
theorem wts_append (n : Nat) (Q R : List (List Int)) : wts n (Q ++ R) = wts n Q + wts n R := by simp [wts, List.sum_append]
theorem wts_chk (n : Nat) (w : List Int) (hw : w.length ≤ n) : wts n (chk n w 3) + 1 = wt (n - w.length) := by
  unfold chk
  by_cases h : w.length < n
  · rw [if_pos h]
    obtain ⟨d, hd⟩ : ∃ d, n - w.length = d + 1 := ⟨n - w.length - 1, by omega⟩
    rw [hd]
    have e : n - (w.length + 1) = d := by omega
    simp only [wts, List.range_succ, List.range_zero, List.nil_append, List.map_append, List.map_cons, List.map_nil, List.length_append, List.length_cons, List.length_nil, Nat.zero_add, List.sum_append, List.sum_cons, List.sum_nil, e, wt]
    omega
  · rw [if_neg h, show n - w.length = 0 by omega]
    rfl
theorem wts_len (n : Nat) : ∀ Q : List (List Int), Q.length ≤ wts n Q
  | [] => Nat.zero_le _
  | w :: Q => by
    have h1 := wts_len n Q
    have h2 := wt_pos (n - w.length)
    unfold wts at h1 ⊢
    simp only [List.length_cons, List.map_cons, List.sum_cons]
    omega

/-- Told are P, to do are Q. -/
inductive Bq (n : Nat) : List (List Int) → List (List Int) → Prop
  | start : Bq n [] [[]]
  | step {P Q : List (List Int)} {w : List Int} (h : Bq n P (w :: Q)) : Bq n (P ++ [w]) (Q ++ chk n w 3)
structure BqF (n : Nat) (P Q : List (List Int)) : Prop where
  rise : (P ++ Q).Pairwise Less
  valid : ∀ w ∈ P ++ Q, w.length ≤ n ∧ ∀ x ∈ w, 0 ≤ x ∧ x ≤ 2
  first : [] ∈ P ++ Q
  after : ∀ w ∈ P ++ Q, w = [] ∨ ∃ u x, u ∈ P ∧ w = u ++ [x]
  full : ∀ u ∈ P, ∀ w ∈ chk n u 3, w ∈ P ++ Q
  many : P.length + wts n Q = wt n
theorem Bq.facts {n : Nat} {P Q : List (List Int)} (h : Bq n P Q) : BqF n P Q := by
  induction h with
  | start => exact ⟨by simp, by simp, by simp, by simp, by simp, by simp [wts]⟩
  | @step P Q w h ih =>
    have e : P ++ w :: Q = P ++ [w] ++ Q := by simp
    have hmem : w ∈ P ++ w :: Q := by simp
    obtain ⟨hwl, hwx⟩ := ih.valid w hmem
    have hch : ∀ v ∈ chk n w 3, ∃ x : Int, 0 ≤ x ∧ x ≤ 2 ∧ v = w ++ [x] ∧ w.length < n := by
      intro v hv
      unfold chk at hv
      by_cases hlt : w.length < n
      · rw [if_pos hlt] at hv
        obtain ⟨x, hx, rfl⟩ := List.mem_map.1 hv
        rw [List.mem_range] at hx
        exact ⟨x, by omega, by omega, rfl, hlt⟩
      · rw [if_neg hlt] at hv; cases hv
    refine ⟨?_, ?_, ?_, ?_, ?_, ?_⟩
    · rw [← List.append_assoc, ← e, List.pairwise_append]
      refine ⟨ih.rise, ?_, fun a ha b hb => ?_⟩
      · unfold chk
        split
        · rw [List.pairwise_map]
          exact (List.pairwise_lt_range (n := 3)).imp (fun h => less_snoc_same (by omega))
        · exact List.Pairwise.nil
      · obtain ⟨x, _, _, rfl, _⟩ := hch b hb
        rcases ih.after a ha with rfl | ⟨u, y, hu, rfl⟩
        · exact .inl (by simp)
        · have := (List.pairwise_append.1 ih.rise).2.2 u hu w (by simp)
          exact less_snoc this
    · intro v hv
      rw [← List.append_assoc, ← e] at hv
      rcases List.mem_append.1 hv with hv | hv
      · exact ih.valid v hv
      · obtain ⟨x, h0, h2, rfl, hlt⟩ := hch v hv
        refine ⟨by simp; omega, fun y hy => ?_⟩
        rcases List.mem_append.1 hy with hy | hy
        · exact hwx y hy
        · simp at hy; omega
    · rw [← List.append_assoc, ← e]
      exact List.mem_append_left _ ih.first
    · intro v hv
      rw [← List.append_assoc, ← e] at hv
      rcases List.mem_append.1 hv with hv | hv
      · rcases ih.after v hv with h0 | ⟨u, x, hu, hx⟩
        · exact .inl h0
        · exact .inr ⟨u, x, List.mem_append_left _ hu, hx⟩
      · obtain ⟨x, _, _, hx, _⟩ := hch v hv
        exact .inr ⟨w, x, by simp, hx⟩
    · intro u hu v hv
      rw [← List.append_assoc, ← e]
      rcases List.mem_append.1 hu with hu | hu
      · exact List.mem_append_left _ (ih.full u hu v hv)
      · obtain rfl : u = w := by simpa using hu
        exact List.mem_append_right _ hv
    · have h1 := wts_chk n w hwl
      have h2 := ih.many
      rw [wts_append]
      simp only [wts, List.map_cons, List.sum_cons, List.length_append, List.length_cons, List.length_nil] at h1 h2 ⊢
      omega
/-- All of at most n letters. -/
theorem BqF.all {n : Nat} {P : List (List Int)} (h : BqF n P []) : ∀ (k : Nat) (w : List Int), w.length = k → k ≤ n → (∀ x ∈ w, 0 ≤ x ∧ x ≤ 2) → w ∈ P
  | 0, w, hk, _, _ => by
    have : w = [] := List.eq_nil_of_length_eq_zero hk
    subst this
    simpa using h.first
  | k + 1, w, hk, hn, hx => by
    have hne : w ≠ [] := fun e => by subst e; simp at hk
    have hu := BqF.all h k w.dropLast (by simp; omega) (by omega) (fun x hx' => hx x (List.dropLast_subset _ hx'))
    have hl := hx (w.getLast hne) (List.getLast_mem hne)
    have hd := List.dropLast_concat_getLast hne
    have := h.full _ hu w (by
      unfold chk
      rw [if_pos (by simp; omega)]
      refine List.mem_map.2 ⟨(w.getLast hne).toNat, List.mem_range.2 (by omega), ?_⟩
      rw [show (((w.getLast hne).toNat : Nat) : Int) = w.getLast hne by omega]
      exact hd)
    simpa using this
/-- Two lists that rise and have the same in them are the same. -/
theorem rise_ext : ∀ {a b : List (List Int)}, a.Pairwise Less → b.Pairwise Less → (∀ w, w ∈ a ↔ w ∈ b) → a = b
  | [], [], _, _, _ => rfl
  | [], y :: b, _, _, h => by have := (h y).2 (by simp); cases this
  | x :: a, [], _, _, h => by have := (h x).1 (by simp); cases this
  | x :: a, y :: b, ha, hb, h => by
    rw [List.pairwise_cons] at ha hb
    have hxy : x = y := by
      rcases List.mem_cons.1 ((h x).1 (by simp)) with e | hx
      · exact e
      · rcases List.mem_cons.1 ((h y).2 (by simp)) with e | hy
        · exact e.symm
        · exact absurd (less_trans (ha.1 y hy) (hb.1 x hx)) less_irrefl
    subst hxy
    rw [rise_ext ha.2 hb.2 (fun w => ?_)]
    constructor
    · intro hw
      rcases List.mem_cons.1 ((h w).1 (List.mem_cons_of_mem _ hw)) with e | h'
      · subst e; exact absurd (ha.1 w hw) less_irrefl
      · exact h'
    · intro hw
      rcases List.mem_cons.1 ((h w).2 (List.mem_cons_of_mem _ hw)) with e | h'
      · subst e; exact absurd (hb.1 w hw) less_irrefl
      · exact h'
/-- All words of at most n letters, in their order. -/
def AllW (n : Nat) (P : List (List Int)) : Prop := P.Pairwise Less ∧ ∀ w, w ∈ P ↔ w.length ≤ n ∧ ∀ x ∈ w, 0 ≤ x ∧ x ≤ 2
theorem Bq.allW {n : Nat} {P : List (List Int)} (h : Bq n P []) : AllW n P := by
  have hf := h.facts
  refine ⟨by simpa using hf.rise, fun w => ⟨fun hw => hf.valid w (by simpa using hw), fun hw => hf.all w.length w rfl hw.1 hw.2⟩⟩
theorem AllW.unique {n : Nat} {P P' : List (List Int)} (h : AllW n P) (h' : AllW n P') : P = P' := rise_ext h.1 h'.1 fun w => (h.2 w).trans (h'.2 w).symm
/-- A grammar's letters are 0 to 2. -/
theorem Word.letters {g : List (List (List Int))} {w : List Int} (hg : gok g) (h : Word g w) : ∀ x ∈ w, 0 ≤ x ∧ x ≤ 2 := by
  have key : ∀ r : List Int, (∀ x ∈ r, x ≤ 2) → ∀ a b, Spn (fun _ a b => ∀ j, a ≤ j → j < b → 0 ≤ w.getD j 0 ∧ w.getD j 0 ≤ 2) w r a b → ∀ j, a ≤ j → j < b → 0 ≤ w.getD j 0 ∧ w.getD j 0 ≤ 2 := by
    intro r
    induction r with
    | nil => intro _ a b hs j h1 h2; have e : a = b := hs; omega
    | cons x r ih =>
      rintro hr a b ⟨c, h1, h2⟩ j hj1 hj2
      by_cases hc : j < c
      · rcases h1 with ⟨h0, e, _, hx⟩ | ⟨_, _, _, hs⟩
        · obtain rfl : j = a := by omega
          have := hr x (by simp)
          omega
        · exact hs j hj1 hc
      · exact ih (fun y hy => hr y (List.mem_cons_of_mem _ hy)) c b h2 j (by omega) hj2
  have hc : Closed g w (fun _ a b => ∀ j, a ≤ j → j < b → 0 ≤ w.getD j 0 ∧ w.getD j 0 ≤ 2) := by
    intro i hi r hr a b _ hs
    obtain ⟨k, hk, rfl⟩ := List.mem_iff_getElem.1 hr
    have := ((hg.2.2 i hi).2 k hk).2
    refine key _ (fun x hx => (this x ?_).2) a b hs
    rw [List.getD, List.getElem?_eq_getElem hk]
    exact hx
  intro x hx
  obtain ⟨j, hj, rfl⟩ := List.mem_iff_getElem.1 hx
  have := h _ hc j (Nat.zero_le _) hj
  simpa [hj] using this
end Go.Mine.Gram
