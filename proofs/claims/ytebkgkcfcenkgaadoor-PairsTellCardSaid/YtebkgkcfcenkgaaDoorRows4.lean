/- Slices of slices of numbers, and slices of those, as cells. No conditions. -/
import Derived.Test.YtebkgkcfcenkgaaDoorRows3
namespace Go.Mine
open Go Go.RowKit
open Go.WideShapes (add_plain)

/-- The cells of a slice of slices of numbers. -/
inductive RVals (w : World) : List Value → List (List Int) → Prop
  | nil : RVals w [] []
  | cons {ro : Option Addr} {rc : Nat} {r : List Int} {vs : List Value} {rows : List (List Int)} (h1 : IntsAt .i64 w ro r) (h2 : r.length ≤ maxLen) (h3 : ro = none → r.length = 0) (h4 : r.length ≤ rc) (h : RVals w vs rows) : RVals w (.slice ro r.length rc :: vs) (r :: rows)
inductive GVals (w : World) : List Value → List (List (List Int)) → Prop
  | nil : GVals w [] []
  | cons {ro : Option Addr} {rc : Nat} {r : List (List Int)} {vs : List Value} {g : List (List (List Int))} (h1 : RowsAt w ro r) (h2 : r.length ≤ maxLen) (h3 : ro = none → r.length = 0) (h4 : r.length ≤ rc) (h : GVals w vs g) : GVals w (.slice ro r.length rc :: vs) (r :: g)
theorem RVals.len {w : World} {vs : List Value} {rows : List (List Int)} (h : RVals w vs rows) : vs.length = rows.length := by
  induction h with
  | nil => rfl
  | cons _ _ _ _ _ ih => simp [ih]
theorem GVals.len {w : World} {vs : List Value} {g : List (List (List Int))} (h : GVals w vs g) : vs.length = g.length := by
  induction h with
  | nil => rfl
  | cons _ _ _ _ _ ih => simp [ih]
theorem RVals.keep {w w' : World} {vs : List Value} {rows : List (List Int)} (h : RVals w vs rows) (hb : Below w.heap.size w w') : RVals w' vs rows := by
  induction h with
  | nil => exact .nil
  | cons h1 h2 h3 h4 _ ih => exact .cons (h1.below (Nat.le_refl _) hb) h2 h3 h4 ih
theorem GVals.keep {w w' : World} {vs : List Value} {g : List (List (List Int))} (h : GVals w vs g) (hb : Below w.heap.size w w') : GVals w' vs g := by
  induction h with
  | nil => exact .nil
  | cons h1 h2 h3 h4 _ ih => exact .cons (h1.below (Nat.le_refl _) hb) h2 h3 h4 ih
theorem RVals.append {w : World} {vs us : List Value} {rows ss : List (List Int)} (h : RVals w vs rows) (h' : RVals w us ss) : RVals w (vs ++ us) (rows ++ ss) := by
  induction h with
  | nil => exact h'
  | cons h1 h2 h3 h4 _ ih => exact .cons h1 h2 h3 h4 ih
theorem GVals.append {w : World} {vs us : List Value} {g ss : List (List (List Int))} (h : GVals w vs g) (h' : GVals w us ss) : GVals w (vs ++ us) (g ++ ss) := by
  induction h with
  | nil => exact h'
  | cons h1 h2 h3 h4 _ ih => exact .cons h1 h2 h3 h4 ih
theorem RVals.one1 {w : World} {vs : List Value} {rows : List (List Int)} (h : RVals w vs rows) : ∀ u ∈ vs, u.oneCell' = true := by
  induction h with
  | nil => simp
  | cons _ _ _ _ _ ih =>
    intro u hu
    rcases List.mem_cons.1 hu with rfl | hu
    · rfl
    · exact ih u hu
theorem GVals.one1 {w : World} {vs : List Value} {g : List (List (List Int))} (h : GVals w vs g) : ∀ u ∈ vs, u.oneCell' = true := by
  induction h with
  | nil => simp
  | cons _ _ _ _ _ ih =>
    intro u hu
    rcases List.mem_cons.1 hu with rfl | hu
    · rfl
    · exact ih u hu
theorem RowsAt.tail {w : World} {b o : Nat} {r : List Int} {rows : List (List Int)} (h : RowsAt w (some ⟨b, o, none⟩) (r :: rows)) : RowsAt w (some ⟨b, o + 1, none⟩) rows := by
  intro j hj
  obtain ⟨b', o', ro, rc, h1, h2, h3⟩ := h (j + 1) (by simpa using hj)
  simp only [Option.some.injEq, Addr.mk.injEq, and_true] at h1
  obtain ⟨rfl, rfl⟩ := h1
  rw [List.getD_cons_succ] at h2 h3
  exact ⟨b, o + 1, ro, rc, rfl, by rw [show o + 1 + j = o + (j + 1) by omega]; exact h2, h3⟩
theorem GridAt.tail {w : World} {b o : Nat} {r : List (List Int)} {g : List (List (List Int))} (h : GridAt w (some ⟨b, o, none⟩) (r :: g)) : GridAt w (some ⟨b, o + 1, none⟩) g := by
  intro j hj
  obtain ⟨b', o', ro, rc, h1, h2, h3⟩ := h (j + 1) (by simpa using hj)
  simp only [Option.some.injEq, Addr.mk.injEq, and_true] at h1
  obtain ⟨rfl, rfl⟩ := h1
  rw [List.getD_cons_succ] at h2 h3
  exact ⟨b, o + 1, ro, rc, rfl, by rw [show o + 1 + j = o + (j + 1) by omega]; exact h2, h3⟩
theorem RowsAt.vals {w : World} : ∀ {rows : List (List Int)} {ao : Option Addr}, RowsAt w ao rows → ∃ vs, RVals w vs rows ∧ ∀ ad, ao = some ad → ∀ j u, vs[j]? = some u → w.cell? (ad.add j) = some u
  | [], _, _ => ⟨[], .nil, fun _ _ j u hu => by simp at hu⟩
  | r :: rows, ao, h => by
    obtain ⟨b, o, ro, rc, rfl, h2, h3, h4, h5, h6⟩ := h 0 (by simp)
    obtain ⟨vs, hv, hc⟩ := RowsAt.vals h.tail
    refine ⟨.slice ro r.length rc :: vs, .cons h3 h4 h5 h6 hv, ?_⟩
    rintro ad had j u hu
    cases had
    cases j with
    | zero =>
      have e : Value.slice ro r.length rc = u := by simpa using hu
      rw [← e, add_plain]
      exact h2
    | succ j =>
      have := hc _ rfl j u (by simpa using hu)
      rw [add_plain] at this ⊢
      rw [show o + (j + 1) = o + 1 + j by omega]
      exact this
theorem GridAt.vals {w : World} : ∀ {g : List (List (List Int))} {ao : Option Addr}, GridAt w ao g → ∃ vs, GVals w vs g ∧ ∀ ad, ao = some ad → ∀ j u, vs[j]? = some u → w.cell? (ad.add j) = some u
  | [], _, _ => ⟨[], .nil, fun _ _ j u hu => by simp at hu⟩
  | r :: rows, ao, h => by
    obtain ⟨b, o, ro, rc, rfl, h2, h3, h4, h5, h6⟩ := h 0 (by simp)
    obtain ⟨vs, hv, hc⟩ := GridAt.vals h.tail
    refine ⟨.slice ro r.length rc :: vs, .cons h3 h4 h5 h6 hv, ?_⟩
    rintro ad had j u hu
    cases had
    cases j with
    | zero =>
      have e : Value.slice ro r.length rc = u := by simpa using hu
      rw [← e, add_plain]
      exact h2
    | succ j =>
      have := hc _ rfl j u (by simpa using hu)
      rw [add_plain] at this ⊢
      rw [show o + (j + 1) = o + 1 + j by omega]
      exact this
theorem RowsAt.of_vals {w : World} {b : Nat} : ∀ {vs : List Value} {rows : List (List Int)} {o : Nat}, RVals w vs rows → (∀ j u, vs[j]? = some u → w.cell? ⟨b, o + j, none⟩ = some u) → RowsAt w (some ⟨b, o, none⟩) rows
  | _, _, _, .nil, _ => RowsAt.nil _ _
  | _, _, o, .cons (ro := ro) (rc := rc) (r := r) (vs := vs) (rows := rows) h1 h2 h3 h4 h, hc => by
    have ht := RowsAt.of_vals (o := o + 1) h (fun j u hu => by
      have := hc (j + 1) u (by simpa using hu)
      rw [show o + (j + 1) = o + 1 + j by omega] at this
      exact this)
    intro j hj
    cases j with
    | zero => exact ⟨b, o, ro, rc, rfl, hc 0 _ rfl, h1, h2, h3, h4⟩
    | succ j =>
      obtain ⟨b', o', ro', rc', e1, e2, e3⟩ := ht j (by simpa using hj)
      simp only [Option.some.injEq, Addr.mk.injEq, and_true] at e1
      obtain ⟨rfl, rfl⟩ := e1
      rw [List.getD_cons_succ]
      exact ⟨b, o, ro', rc', rfl, by rw [show o + (j + 1) = o + 1 + j by omega]; exact e2, e3⟩
theorem GridAt.of_vals {w : World} {b : Nat} : ∀ {vs : List Value} {g : List (List (List Int))} {o : Nat}, GVals w vs g → (∀ j u, vs[j]? = some u → w.cell? ⟨b, o + j, none⟩ = some u) → GridAt w (some ⟨b, o, none⟩) g
  | _, _, _, .nil, _ => GridAt.nil _ _
  | _, _, o, .cons (ro := ro) (rc := rc) (r := r) (vs := vs) (g := g) h1 h2 h3 h4 h, hc => by
    have ht := GridAt.of_vals (o := o + 1) h (fun j u hu => by
      have := hc (j + 1) u (by simpa using hu)
      rw [show o + (j + 1) = o + 1 + j by omega] at this
      exact this)
    intro j hj
    cases j with
    | zero => exact ⟨b, o, ro, rc, rfl, hc 0 _ rfl, h1, h2, h3, h4⟩
    | succ j =>
      obtain ⟨b', o', ro', rc', e1, e2, e3⟩ := ht j (by simpa using hj)
      simp only [Option.some.injEq, Addr.mk.injEq, and_true] at e1
      obtain ⟨rfl, rfl⟩ := e1
      rw [List.getD_cons_succ]
      exact ⟨b, o, ro', rc', rfl, by rw [show o + (j + 1) = o + 1 + j by omega]; exact e2, e3⟩
/-- A slice of the call's own that holds such cells. -/
theorem RowsAt.of_owns {w : World} {base : Nat} {e : TypeId} {ao : Option Addr} {n cap : Nat} {vs : List Value} {rows : List (List Int)} (h : w.ownsRow base e 1 (.slice ao n cap) n vs) (hv : RVals w vs rows) : RowsAt w ao rows := by
  have hl := h.1
  have hl2 := hv.len
  rcases h.2 with ⟨h1, h2⟩ | ⟨g, cap', cur, h1, _⟩
  · have : rows = [] := List.eq_nil_of_length_eq_zero (by omega)
    subst this
    exact RowsAt.nil _ _
  · simp only [Value.slice.injEq] at h1
    obtain ⟨rfl, _, rfl⟩ := h1
    refine RowsAt.of_vals hv (fun j u hu => ?_)
    have hj : j < vs.length := by
      rcases Nat.lt_or_ge j vs.length with h' | h'
      · exact h'
      · rw [List.getElem?_eq_none h'] at hu; cases hu
    rw [Nat.zero_add, h.cellAt j (by omega), hu]
theorem GridAt.of_owns {w : World} {base : Nat} {e : TypeId} {ao : Option Addr} {n cap : Nat} {vs : List Value} {g : List (List (List Int))} (h : w.ownsRow base e 1 (.slice ao n cap) n vs) (hv : GVals w vs g) : GridAt w ao g := by
  have hl := h.1
  have hl2 := hv.len
  rcases h.2 with ⟨h1, h2⟩ | ⟨b, cap', cur, h1, _⟩
  · have : g = [] := List.eq_nil_of_length_eq_zero (by omega)
    subst this
    exact GridAt.nil _ _
  · simp only [Value.slice.injEq] at h1
    obtain ⟨rfl, _, rfl⟩ := h1
    refine GridAt.of_vals hv (fun j u hu => ?_)
    have hj : j < vs.length := by
      rcases Nat.lt_or_ge j vs.length with h' | h'
      · exact h'
      · rw [List.getElem?_eq_none h'] at hu; cases hu
    rw [Nat.zero_add, h.cellAt j (by omega), hu]
end Go.Mine
