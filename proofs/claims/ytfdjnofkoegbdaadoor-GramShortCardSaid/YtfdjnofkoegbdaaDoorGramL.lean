/- What a name makes, as words; the least of them. Plain lists, no program. -/
import Derived.Test.YtfdjnofkoegbdaaDoorGramW
namespace Go.Mine.Gram
open Go Go.RowKit Go.Mine

/-- What things make, by what names make. -/
def Cat (S : Nat → List Int → Prop) : List Int → List Int → Prop
  | [], w => w = []
  | x :: xs, w => ∃ u v, w = u ++ v ∧ ((0 ≤ x ∧ u = [x]) ∨ (x < 0 ∧ S (-1 - x).toNat u)) ∧ Cat S xs v
def LClosed (g : List (List (List Int))) (S : Nat → List Int → Prop) : Prop := ∀ i, i < g.length → ∀ r ∈ g.getD i [], ∀ w, Cat S r w → S i w
def Lang (g : List (List (List Int))) (i : Nat) (w : List Int) : Prop := ∀ S : Nat → List Int → Prop, LClosed g S → S i w
theorem Cat.mono {S T : Nat → List Int → Prop} (h : ∀ i w, S i w → T i w) : ∀ {r w}, Cat S r w → Cat T r w
  | [], _, hc => hc
  | _ :: _, _, ⟨u, v, e, h1, h2⟩ => ⟨u, v, e, h1.imp id (fun h3 => ⟨h3.1, h _ _ h3.2⟩), Cat.mono h h2⟩
theorem Lang.closed (g : List (List (List Int))) : LClosed g (Lang g) := fun i hi r hr w hc S hS => hS i hi r hr w (hc.mono fun _ _ h => h S hS)

/-- A piece of a word. -/
def cut (w : List Int) (a b : Nat) : List Int := (w.drop a).take (b - a)
theorem cut_app {w : List Int} {a c b : Nat} (h1 : a ≤ c) (h2 : c ≤ b) : cut w a b = cut w a c ++ cut w c b := by
  unfold cut
  have e : b - a = (c - a) + (b - c) := by omega
  rw [e, List.take_add, List.drop_drop, show a + (c - a) = c by omega]
theorem cut_one {w : List Int} {a : Nat} (h : a < w.length) : cut w a (a + 1) = [w.getD a 0] := by
  unfold cut
  have e : (w.drop a).take (a + 1 - a) = [w[a]] := by
    rw [show a + 1 - a = 1 by omega, List.drop_eq_getElem_cons h]
    rfl
  rw [e]
  simp [h]
theorem cut_all (w : List Int) : cut w 0 w.length = w := by simp [cut]
/-- From places to words. -/
theorem Word.lang {g : List (List (List Int))} {w : List Int} (h : Word g w) : Lang g 0 w := by
  have hc : Closed g w (fun i a b => Lang g i (cut w a b)) := by
    intro i hi r hr a b ha hs
    refine Lang.closed g i hi r hr _ ?_
    clear hr hi i
    induction r generalizing a with
    | nil =>
      have e : a = b := hs
      subst e
      simp [Cat, cut]
    | cons x xs ih =>
      obtain ⟨c, h1, h2⟩ := hs
      have hr1 := h1.range
      have hr2 := h2.range hr1.2
      refine ⟨cut w a c, cut w c b, cut_app hr1.1 hr2.1, ?_, ih c hr1.2 h2⟩
      rcases h1 with ⟨g1, g2, g3, g4⟩ | ⟨g1, _, _, g4⟩
      · subst g2
        exact .inl ⟨g1, by rw [cut_one g3, g4]⟩
      · exact .inr ⟨g1, g4⟩
  have := h _ hc
  rwa [cut_all] at this
/-- From words to places. -/
theorem Lang.word {g : List (List (List Int))} {u : List Int} (h : Lang g 0 u) : Word g u := by
  have hc : LClosed g (fun i u => ∀ (w : List Int) (a : Nat), a + u.length ≤ w.length → cut w a (a + u.length) = u → Mk g w i a (a + u.length)) := by
    intro i hi r hr u hcat w a hl hw
    refine Mk.closed g w i hi r hr a _ (by omega) ?_
    clear hr hi i
    induction r generalizing a u with
    | nil =>
      have e : u = [] := hcat
      subst e
      show a = a + 0
      rfl
    | cons x xs ih =>
      obtain ⟨p, q, rfl, h1, h2⟩ := hcat
      rw [List.length_append] at hl hw ⊢
      have hsp := cut_app (w := w) (a := a) (c := a + p.length) (b := a + (p.length + q.length)) (by omega) (by omega)
      rw [hsp] at hw
      have hl1 : (cut w a (a + p.length)).length = p.length := by unfold cut; simp; omega
      obtain ⟨e1, e2⟩ := List.append_inj hw hl1
      rw [show a + (p.length + q.length) = a + p.length + q.length by omega] at e2 ⊢
      refine ⟨a + p.length, ?_, ih q h2 (a + p.length) (by omega) e2⟩
      rcases h1 with ⟨g1, g2⟩ | ⟨g1, g2⟩
      · subst g2
        have hlt : a < w.length := by simp at hl; omega
        rw [show a + [x].length = a + 1 from rfl, cut_one hlt] at e1
        exact .inl ⟨g1, rfl, hlt, by simpa using e1⟩
      · exact .inr ⟨g1, by omega, by omega, g2 w a (by omega) e1⟩
  have := h _ hc u 0 (by omega) (by rw [Nat.zero_add]; exact cut_all u)
  rw [Nat.zero_add] at this
  exact this

/-! ### The order -/
def Le (a b : List Int) : Prop := Less a b ∨ a = b
theorem lex_tri : ∀ {a b : List Int}, a.length = b.length → Lex a b ∨ a = b ∨ Lex b a
  | [], [], _ => .inr (.inl rfl)
  | [], _ :: _, h => by simp at h
  | _ :: _, [], h => by simp at h
  | x :: a, y :: b, h => by
    rcases Int.lt_trichotomy x y with e | e | e
    · exact .inl (.inl e)
    · subst e
      rcases lex_tri (a := a) (b := b) (by simpa using h) with h1 | h1 | h1
      · exact .inl (.inr ⟨rfl, h1⟩)
      · exact .inr (.inl (by rw [h1]))
      · exact .inr (.inr (.inr ⟨rfl, h1⟩))
    · exact .inr (.inr (.inl e))
theorem less_tri (a b : List Int) : Less a b ∨ a = b ∨ Less b a := by
  rcases Nat.lt_trichotomy a.length b.length with e | e | e
  · exact .inl (.inl e)
  · rcases lex_tri e with h | h | h
    · exact .inl (.inr ⟨e, h⟩)
    · exact .inr (.inl h)
    · exact .inr (.inr (.inr ⟨e.symm, h⟩))
  · exact .inr (.inr (.inl e))
theorem le_of_not {a b : List Int} (h : ¬ Less b a) : Le a b := by
  rcases less_tri a b with h1 | h1 | h1
  · exact .inl h1
  · exact .inr h1
  · exact absurd h1 h
theorem not_of_le {a b : List Int} (h : Le a b) : ¬ Less b a := fun h1 => by
  rcases h with h | h
  · exact less_irrefl (less_trans h h1)
  · subst h; exact less_irrefl h1
theorem le_trans {a b c : List Int} (h1 : Le a b) (h2 : Le b c) : Le a c := by
  rcases h1 with h1 | rfl
  · rcases h2 with h2 | rfl
    · exact .inl (less_trans h1 h2)
    · exact .inl h1
  · exact h2
theorem le_len {a b : List Int} (h : Le a b) : a.length ≤ b.length := by
  rcases h with (h | ⟨h, _⟩) | rfl <;> omega
theorem lex_app_same : ∀ {u s t : List Int}, Lex s t → Lex (u ++ s) (u ++ t)
  | [], _, _, h => h
  | _ :: u, _, _, h => .inr ⟨rfl, lex_app_same (u := u) h⟩
theorem lex_app_lt : ∀ {u v s t : List Int}, u.length = v.length → Lex u v → Lex (u ++ s) (v ++ t)
  | [], [], _, _, _, h => h.elim
  | [], _ :: _, _, _, h, _ => by simp at h
  | _ :: _, [], _, _, h, _ => by simp at h
  | x :: u, y :: v, s, t, hl, h => by
    rcases h with h | ⟨h1, h2⟩
    · exact .inl h
    · exact .inr ⟨h1, lex_app_lt (by simpa using hl) h2⟩
theorem le_app {u v s t : List Int} (h1 : Le u v) (h2 : Le s t) : Le (u ++ s) (v ++ t) := by
  have hs := le_len h2
  rcases h1 with (h1 | ⟨e1, h1⟩) | rfl
  · exact .inl (.inl (by simp; omega))
  · by_cases e : s.length = t.length
    · exact .inl (.inr ⟨by simp; omega, lex_app_lt e1 h1⟩)
    · exact .inl (.inl (by simp; omega))
  · rcases h2 with (h2 | ⟨e2, h2⟩) | rfl
    · exact .inl (.inl (by simp; omega))
    · exact .inl (.inr ⟨by simp; omega, lex_app_same h2⟩)
    · exact .inr rfl

/-! ### The least words -/
/-- What things make of the words that are held. -/
def cat (B : List (List Int)) : List Int → List Int
  | [] => []
  | x :: xs => (if x < 0 then B.getD (-1 - x).toNat [] else [x]) ++ cat B xs
theorem cat_snoc (B : List (List Int)) (xs : List Int) (x : Int) : cat B (xs ++ [x]) = cat B xs ++ (if x < 0 then B.getD (-1 - x).toNat [] else [x]) := by
  induction xs with
  | nil => simp [cat]
  | cons y ys ih => simp [cat, ih]
def ready (S : List Bool) (r : List Int) : Prop := ∀ x ∈ r, x < 0 → S.getD (-1 - x).toNat false = true
/-- Nothing is less any more. -/
def Fixed (g : List (List (List Int))) (S : List Bool) (B : List (List Int)) : Prop :=
  ∀ k, k < g.length → ∀ r ∈ g.getD k [], ready S r → S.getD k false = true ∧ Le (B.getD k []) (cat B r)
theorem Fixed.least {g : List (List (List Int))} {S : List Bool} {B : List (List Int)} (h : Fixed g S B) (hg : gok g) {k : Nat} (hk : k < g.length) {w : List Int} (hw : Lang g k w) : S.getD k false = true ∧ Le (B.getD k []) w := by
  have hc : LClosed g (fun i w => i < g.length → S.getD i false = true ∧ Le (B.getD i []) w) := by
    intro i hi r hr w hcat _
    have hrx : ∀ x ∈ r, -(g.length : Int) ≤ x := by
      obtain ⟨j, hj, rfl⟩ := List.mem_iff_getElem.1 hr
      intro x hx
      have := ((hg.2.2 i hi).2 j hj).2 x (by rw [List.getD, List.getElem?_eq_getElem hj]; exact hx)
      exact this.1
    have key : ∀ (r : List Int) (w : List Int), (∀ x ∈ r, -(g.length : Int) ≤ x) → Cat (fun i w => i < g.length → S.getD i false = true ∧ Le (B.getD i []) w) r w → ready S r ∧ Le (cat B r) w := by
      intro r
      induction r with
      | nil =>
        intro w _ hcw
        have e : w = [] := hcw
        subst e
        exact ⟨fun x hx => (by cases hx), .inr rfl⟩
      | cons x xs ih =>
        rintro w hx ⟨u, v, rfl, h1, h2⟩
        obtain ⟨r1, r2⟩ := ih v (fun y hy => hx y (List.mem_cons_of_mem _ hy)) h2
        have hx0 := hx x (by simp)
        rcases h1 with ⟨g1, rfl⟩ | ⟨g1, g2⟩
        · refine ⟨fun y hy hy0 => ?_, ?_⟩
          · rcases List.mem_cons.1 hy with rfl | hy
            · omega
            · exact r1 y hy hy0
          · show Le ((if x < 0 then B.getD (-1 - x).toNat [] else [x]) ++ cat B xs) _
            rw [if_neg (by omega)]
            exact le_app (.inr rfl) r2
        · have g3 := g2 (by omega)
          refine ⟨fun y hy hy0 => ?_, ?_⟩
          · rcases List.mem_cons.1 hy with rfl | hy
            · exact g3.1
            · exact r1 y hy hy0
          · show Le ((if x < 0 then B.getD (-1 - x).toNat [] else [x]) ++ cat B xs) _
            rw [if_pos g1]
            exact le_app g3.2 r2
    obtain ⟨k1, k2⟩ := key r w hrx hcat
    obtain ⟨f1, f2⟩ := h i hi r hr k1
    exact ⟨f1, le_trans f2 k2⟩
  exact hw _ hc hk
/-- How the search stands. -/
structure Bst (g : List (List (List Int))) (S : List Bool) (B : List (List Int)) : Prop where
  slen : S.length = g.length
  blen : B.length = g.length
  sound : ∀ k, k < g.length → S.getD k false = true → Lang g k (B.getD k [])
  letters : ∀ k, k < g.length → ∀ x ∈ B.getD k [], 0 ≤ x ∧ x ≤ 2
  short : ∀ k, k < g.length → (B.getD k []).length ≤ 4 ^ S.count true
theorem Bst.lang {g : List (List (List Int))} {S : List Bool} {B : List (List Int)} (h : Bst g S B) : ∀ {r : List Int}, (∀ x ∈ r, -(g.length : Int) ≤ x) → ready S r → Cat (Lang g) r (cat B r)
  | [], _, _ => rfl
  | x :: xs, hx, hr => by
    have ih := Bst.lang h (r := xs) (fun y hy => hx y (List.mem_cons_of_mem _ hy)) (fun y hy => hr y (List.mem_cons_of_mem _ hy))
    refine ⟨_, _, rfl, ?_, ih⟩
    by_cases h0 : x < 0
    · have := hx x (by simp)
      rw [if_pos h0]
      exact .inr ⟨h0, h.sound _ (by omega) (hr x (by simp) h0)⟩
    · rw [if_neg h0]
      exact .inl ⟨by omega, rfl⟩
theorem Bst.cat_letters {g : List (List (List Int))} {S : List Bool} {B : List (List Int)} (h : Bst g S B) : ∀ {r : List Int}, (∀ x ∈ r, -(g.length : Int) ≤ x ∧ x ≤ 2) → ∀ y ∈ cat B r, 0 ≤ y ∧ y ≤ 2
  | [], _, y, hy => by cases hy
  | x :: xs, hx, y, hy => by
    have hx0 := hx x (by simp)
    rcases List.mem_append.1 (show y ∈ (if x < 0 then B.getD (-1 - x).toNat [] else [x]) ++ cat B xs from hy) with hy | hy
    · by_cases h0 : x < 0
      · rw [if_pos h0] at hy
        exact h.letters _ (by omega) y hy
      · rw [if_neg h0] at hy
        obtain rfl : y = x := by simpa using hy
        omega
    · exact Bst.cat_letters h (fun z hz => hx z (List.mem_cons_of_mem _ hz)) y hy
theorem Bst.cat_len {g : List (List (List Int))} {S : List Bool} {B : List (List Int)} (h : Bst g S B) : ∀ {r : List Int}, (∀ x ∈ r, -(g.length : Int) ≤ x) → (cat B r).length ≤ r.length * 4 ^ S.count true
  | [], _ => by simp [cat]
  | x :: xs, hx => by
    have ih := Bst.cat_len h (r := xs) (fun y hy => hx y (List.mem_cons_of_mem _ hy))
    have hx0 := hx x (by simp)
    have hp : 1 ≤ 4 ^ S.count true := Nat.pos_of_ne_zero (by simp)
    show ((if x < 0 then B.getD (-1 - x).toNat [] else [x]) ++ cat B xs).length ≤ _
    rw [List.length_append, List.length_cons, Nat.add_mul, Nat.one_mul]
    by_cases h0 : x < 0
    · rw [if_pos h0]
      have := h.short (-1 - x).toNat (by omega)
      omega
    · rw [if_neg h0]
      simp only [List.length_singleton]
      omega

/-! ### Numbers for words -/
def mn : Nat → Nat
  | 0 => 0
  | l + 1 => 3 ^ l + mn l
def rank : List Int → Nat
  | [] => 0
  | x :: xs => (x.toNat + 1) * 3 ^ xs.length + rank xs
theorem rank_bounds : ∀ {w : List Int}, (∀ x ∈ w, 0 ≤ x ∧ x ≤ 2) → mn w.length ≤ rank w ∧ rank w < mn w.length + 3 ^ w.length
  | [], _ => by simp [mn, rank]
  | x :: xs, h => by
    obtain ⟨h1, h2⟩ := rank_bounds (w := xs) (fun y hy => h y (List.mem_cons_of_mem _ hy))
    have hx := h x (by simp)
    have hp : 0 < 3 ^ xs.length := Nat.pos_of_ne_zero (by simp)
    simp only [rank, mn, List.length_cons, Nat.pow_succ]
    rcases (show x = 0 ∨ x = 1 ∨ x = 2 by omega) with rfl | rfl | rfl <;> simp <;> omega
theorem mn_mono : ∀ {a b : Nat}, a ≤ b → mn a ≤ mn b := by
  intro a b h
  induction h with
  | refl => exact Nat.le_refl _
  | step _ ih => exact Nat.le_trans ih (by simp [mn])
theorem lex_rank : ∀ {a b : List Int}, a.length = b.length → (∀ x ∈ a, 0 ≤ x ∧ x ≤ 2) → (∀ x ∈ b, 0 ≤ x ∧ x ≤ 2) → Lex a b → rank a < rank b
  | [], [], _, _, _, h => h.elim
  | [], _ :: _, h, _, _, _ => by simp at h
  | _ :: _, [], h, _, _, _ => by simp at h
  | x :: a, y :: b, hl, ha, hb, h => by
    have hl' : a.length = b.length := by simpa using hl
    have ha' : ∀ z ∈ a, 0 ≤ z ∧ z ≤ 2 := fun z hz => ha z (List.mem_cons_of_mem _ hz)
    have hb' : ∀ z ∈ b, 0 ≤ z ∧ z ≤ 2 := fun z hz => hb z (List.mem_cons_of_mem _ hz)
    have hx := ha x (by simp)
    have hy := hb y (by simp)
    simp only [rank]
    rcases h with h | ⟨rfl, h⟩
    · have h1 := rank_bounds ha'
      have h2 := rank_bounds hb'
      rw [hl'] at h1 ⊢
      have h3 := Nat.mul_le_mul_right (3 ^ b.length) (show x.toNat + 1 + 1 ≤ y.toNat + 1 by omega)
      rw [Nat.add_mul, Nat.one_mul] at h3
      omega
    · have := lex_rank hl' ha' hb' h
      rw [hl']
      omega
theorem less_rank {a b : List Int} (ha : ∀ x ∈ a, 0 ≤ x ∧ x ≤ 2) (hb : ∀ x ∈ b, 0 ≤ x ∧ x ≤ 2) (h : Less a b) : rank a < rank b := by
  rcases h with h | ⟨e, h⟩
  · have h1 := (rank_bounds ha).2
    have h2 := (rank_bounds hb).1
    have h3 := mn_mono (show a.length + 1 ≤ b.length from h)
    simp only [mn] at h3
    omega
  · exact lex_rank e ha hb h
/-- What is still to come. -/
def mu1 (S : List Bool) (B : List (List Int)) (k : Nat) : Nat := if S.getD k false then rank (B.getD k []) else mn 1025
def mu (S : List Bool) (B : List (List Int)) : Nat → Nat
  | 0 => 0
  | n + 1 => mu S B n + mu1 S B n
theorem mu_lt {S S' : List Bool} {B B' : List (List Int)} {k : Nat} (h : mu1 S' B' k < mu1 S B k) (ho : ∀ j, j ≠ k → mu1 S' B' j = mu1 S B j) : ∀ n, k < n → mu S' B' n < mu S B n
  | 0, hk => by omega
  | n + 1, hk => by
    have hsame : ∀ m, m ≤ k → mu S' B' m = mu S B m := by
      intro m
      induction m with
      | zero => intro _; rfl
      | succ m ih => intro hm; simp only [mu]; rw [ih (by omega), ho m (by omega)]
    simp only [mu]
    by_cases e : k = n
    · subst e
      rw [hsame k (Nat.le_refl _)]
      omega
    · have := mu_lt h ho n (by omega)
      rw [ho n (by omega)]
      omega
theorem count_le {S : List Bool} : S.count true ≤ S.length := List.count_le_length
theorem count_set : ∀ {S : List Bool} {k : Nat}, k < S.length → S.getD k false = false → (S.set k true).count true = S.count true + 1
  | b :: S, 0, _, h => by
    have e : b = false := by simpa using h
    subst e
    simp
  | b :: S, k + 1, hk, h => by
    have := count_set (S := S) (k := k) (by simpa using hk) (by simpa using h)
    simp only [List.set_cons_succ, List.count_cons]
    omega
theorem getD_set_word {B : List (List Int)} {k j : Nat} {w : List Int} (hk : k < B.length) : (B.set k w).getD j [] = if j = k then w else B.getD j [] := by
  by_cases e : j = k
  · subst e; simp [hk]
  · rw [if_neg e]; simp [List.getElem?_set_ne (Ne.symm e)]
theorem getD_set_flag {S : List Bool} {k j : Nat} (hk : k < S.length) : (S.set k true).getD j false = if j = k then true else S.getD j false := by
  by_cases e : j = k
  · subst e; simp [hk]
  · rw [if_neg e]; simp [List.getElem?_set_ne (Ne.symm e)]
/-- A less word is held. -/
theorem Bst.put {g : List (List (List Int))} {S : List Bool} {B : List (List Int)} (h : Bst g S B) (hg5 : g.length ≤ 5) {k : Nat} (hk : k < g.length) {r : List Int} (hr : r ∈ g.getD k []) (hr4 : r.length ≤ 4) (hrx : ∀ x ∈ r, -(g.length : Int) ≤ x ∧ x ≤ 2) (hrd : ready S r)
    (hl : S.getD k false = false ∨ Less (cat B r) (B.getD k [])) : Bst g (S.set k true) (B.set k (cat B r)) ∧ mu (S.set k true) (B.set k (cat B r)) g.length < mu S B g.length := by
  have hkS : k < S.length := by rw [h.slen]; exact hk
  have hkB : k < B.length := by rw [h.blen]; exact hk
  have hrx1 : ∀ x ∈ r, -(g.length : Int) ≤ x := fun x hx => (hrx x hx).1
  have hlet := h.cat_letters hrx
  have hlen := h.cat_len hrx1
  have hc5 := count_le (S := S)
  rw [h.slen] at hc5
  have hcnt : (S.getD k false = false ∧ (S.set k true).count true = S.count true + 1) ∨ (S.getD k false = true ∧ S.set k true = S) := by
    cases e : S.getD k false with
    | false => exact .inl ⟨rfl, count_set hkS e⟩
    | true => exact .inr ⟨rfl, set_same e⟩
  have hcl : (cat B r).length ≤ 4 ^ (S.set k true).count true := by
    rcases hcnt with ⟨_, e2⟩ | ⟨e1, e2⟩
    · rw [e2, Nat.pow_succ]
      have := Nat.mul_le_mul_right (4 ^ S.count true) hr4
      rw [Nat.mul_comm (4 ^ S.count true) 4]
      omega
    · rw [e2]
      rcases hl with hl | hl
      · rw [hl] at e1; cases e1
      · exact Nat.le_trans (le_len (.inl hl)) (h.short k hk)
  refine ⟨⟨by simp [h.slen], by simp [h.blen], fun j hj hs => ?_, fun j hj => ?_, fun j hj => ?_⟩, mu_lt (k := k) ?_ (fun j hj => ?_) _ hk⟩
  · rw [getD_set_word hkB]
    by_cases e : j = k
    · subst e
      rw [if_pos rfl]
      exact Lang.closed g j hj r hr _ (h.lang hrx1 hrd)
    · rw [if_neg e]
      rw [getD_set_flag hkS, if_neg e] at hs
      exact h.sound j hj hs
  · rw [getD_set_word hkB]
    by_cases e : j = k
    · rw [if_pos e]; exact hlet
    · rw [if_neg e]; exact h.letters j hj
  · rw [getD_set_word hkB]
    by_cases e : j = k
    · rw [if_pos e]; exact hcl
    · rw [if_neg e]
      refine Nat.le_trans (h.short j hj) ?_
      rcases hcnt with ⟨_, e2⟩ | ⟨_, e2⟩
      · rw [e2]; exact Nat.pow_le_pow_right (by omega) (by omega)
      · rw [e2]; exact Nat.le_refl _
  · unfold mu1
    rw [getD_set_flag hkS, if_pos rfl, getD_set_word hkB, if_pos rfl]
    rcases hcnt with ⟨e1, e2⟩ | ⟨e1, e2⟩
    · rw [e1]
      simp only [if_true, Bool.false_eq_true, if_false]
      have h1 := (rank_bounds hlet).2
      have h5 : (S.set k true).count true ≤ 5 := by
        have := count_le (S := S.set k true)
        simp only [List.length_set, h.slen] at this
        omega
      have h2 : (cat B r).length ≤ 1024 := Nat.le_trans hcl (Nat.le_trans (Nat.pow_le_pow_right (by omega) h5) (by decide))
      have h3 := mn_mono (show (cat B r).length + 1 ≤ 1025 by omega)
      rw [show mn ((cat B r).length + 1) = 3 ^ (cat B r).length + mn (cat B r).length from rfl] at h3
      omega
    · rw [e1]
      simp only [if_true]
      rcases hl with hl | hl
      · rw [hl] at e1; cases e1
      · exact less_rank hlet (h.letters k hk) hl
  · unfold mu1
    rw [getD_set_flag hkS, if_neg hj, getD_set_word hkB, if_neg hj]
end Go.Mine.Gram
