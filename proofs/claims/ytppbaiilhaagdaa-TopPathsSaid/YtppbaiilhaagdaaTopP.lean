/- TopPaths' plain law: where a path is greater than the one ahead of it; which edges are met. No program, no conditions. -/
import Derived.Test.YtppbaiilhaagdaaPathN
import Derived.Test.YtppbaiilhaagdaaPathO
namespace Go.Mine.Path

/-- At p w is greater than l, or l is at its end; ahead of p they are the same. -/
structure Up (l w : List Nat) (p : Nat) : Prop where
  lt : p < w.length
  le : p ≤ l.length
  same : ∀ j, j < p → l.getD j 0 = w.getD j 0
  up : p = l.length ∨ l.getD p 0 < w.getD p 0
theorem up_nil {w : List Nat} (h : 0 < w.length) : Up [] w 0 := ⟨h, Nat.le_refl _, fun _ h => by omega, .inl rfl⟩
theorem Lx.up {l w : List Nat} (h : Lx l w) : ∃ p, Up l w p := by
  induction h with
  | nil => exact ⟨0, by simp, by simp, fun _ h => by omega, .inl rfl⟩
  | head h => exact ⟨0, by simp, by simp, fun _ h => by omega, .inr (by simpa using h)⟩
  | @tail a r s _ ih =>
    obtain ⟨p, hp⟩ := ih
    refine ⟨p + 1, by have := hp.lt; simp; omega, by have := hp.le; simp; omega, fun j hj => ?_, ?_⟩
    · cases j with
      | zero => simp
      | succ j => have := hp.same j (by omega); simpa using this
    · rcases hp.up with h | h
      · exact .inl (by simp [h])
      · exact .inr (by simpa using h)
theorem paths_up {es : List (Nat × Nat)} {n i k : Nat} {l w : List Nat} (hl : (paths es n i)[k]? = some l) (hw : (paths es n i)[k + 1]? = some w) : ∃ p, Up l w p := by
  have hr := paths_rise es n i
  rw [List.pairwise_iff_getElem] at hr
  obtain ⟨h1, h2⟩ := List.getElem?_eq_some_iff.1 hl
  obtain ⟨h3, h4⟩ := List.getElem?_eq_some_iff.1 hw
  have := hr k (k + 1) h1 h3 (by omega)
  rw [h2, h4] at this
  exact this.up
/-- At q stands a, and b behind it. -/
def PairAt (w : List Nat) (q : Nat) (e : Nat × Nat) : Prop := w[q]? = some e.1 ∧ w[q + 1]? = some e.2
/-- Edge j. -/
def Ej (es : List (Nat × Nat)) (j : Nat) : Nat × Nat := es.getD j (0, 0)
/-- Met by the first k paths. -/
def MetP (es : List (Nat × Nat)) (n k : Nat) (M : Nat → Bool) : Prop := ∀ j, j < es.length → (M j = true ↔ ∃ r, r < k ∧ ∃ w, (paths es n 0)[r]? = some w ∧ ∃ q, PairAt w q (Ej es j))
/-- Met besides by the first q steps of w. -/
def MetQ (es : List (Nat × Nat)) (w : List Nat) (q : Nat) (M0 M : Nat → Bool) : Prop := ∀ j, j < es.length → (M j = true ↔ M0 j = true ∨ ∃ p, p < q ∧ PairAt w p (Ej es j))
/-- And, of the first i edges, by step q. -/
def MetI (es : List (Nat × Nat)) (w : List Nat) (q i : Nat) (M0 M : Nat → Bool) : Prop := ∀ j, j < es.length → (M j = true ↔ M0 j = true ∨ (∃ p, p < q ∧ PairAt w p (Ej es j)) ∨ (j < i ∧ PairAt w q (Ej es j)))
theorem MetP.start (es : List (Nat × Nat)) (n : Nat) : MetP es n 0 (fun _ => false) := fun j _ => ⟨fun h => absurd h (by simp), fun ⟨r, h, _⟩ => absurd h (by omega)⟩
theorem MetQ.start (es : List (Nat × Nat)) (w : List Nat) (M : Nat → Bool) : MetQ es w 0 M M := fun j _ => ⟨.inl, fun h => h.elim id fun ⟨p, h, _⟩ => absurd h (by omega)⟩
theorem MetQ.inn {es : List (Nat × Nat)} {w : List Nat} {q : Nat} {M0 M : Nat → Bool} (h : MetQ es w q M0 M) : MetI es w q 0 M0 M := fun j hj => by
  rw [h j hj]
  exact ⟨fun h => h.elim .inl fun h => .inr (.inl h), fun h => h.elim .inl fun h => h.elim .inr fun ⟨h, _⟩ => by omega⟩
theorem MetI.step {es : List (Nat × Nat)} {w : List Nat} {q i : Nat} {M0 M : Nat → Bool} (h : MetI es w q i M0 M) (c : Bool) (hc : c = true ↔ PairAt w q (Ej es i)) : MetI es w q (i + 1) M0 (upd M i (M i || c)) := fun j hj => by
  by_cases e : j = i
  · subst e
    rw [upd_same, Bool.or_eq_true, h j hj, hc]
    constructor
    · rintro ((h | h | ⟨h, _⟩) | h)
      · exact .inl h
      · exact .inr (.inl h)
      · omega
      · exact .inr (.inr ⟨by omega, h⟩)
    · rintro (h | h | ⟨_, h⟩)
      · exact .inl (.inl h)
      · exact .inl (.inr (.inl h))
      · exact .inr h
  · rw [upd_ne _ _ e, h j hj]
    constructor
    · rintro (h | h | ⟨h, h2⟩)
      · exact .inl h
      · exact .inr (.inl h)
      · exact .inr (.inr ⟨by omega, h2⟩)
    · rintro (h | h | ⟨h, h2⟩)
      · exact .inl h
      · exact .inr (.inl h)
      · exact .inr (.inr ⟨by omega, h2⟩)
theorem MetI.out {es : List (Nat × Nat)} {w : List Nat} {q : Nat} {M0 M : Nat → Bool} (h : MetI es w q es.length M0 M) : MetQ es w (q + 1) M0 M := fun j hj => by
  rw [h j hj]
  constructor
  · rintro (h | ⟨p, h, h2⟩ | ⟨h, h2⟩)
    · exact .inl h
    · exact .inr ⟨p, by omega, h2⟩
    · exact .inr ⟨q, by omega, h2⟩
  · rintro (h | ⟨p, h, h2⟩)
    · exact .inl h
    · by_cases e : p = q
      · subst e; exact .inr (.inr ⟨hj, h2⟩)
      · exact .inr (.inl ⟨p, by omega, h2⟩)
theorem MetQ.next {es : List (Nat × Nat)} {n k m : Nat} {w : List Nat} {M0 M : Nat → Bool} (h0 : MetP es n k M0) (h : MetQ es w m M0 M) (hw : (paths es n 0)[k]? = some w) (hm : w.length = m + 1) : MetP es n (k + 1) M := fun j hj => by
  rw [h j hj, h0 j hj]
  constructor
  · rintro (⟨r, h, h2⟩ | ⟨p, _, h2⟩)
    · exact ⟨r, by omega, h2⟩
    · exact ⟨k, by omega, w, hw, p, h2⟩
  · rintro ⟨r, h, w2, h2, p, h3⟩
    by_cases e : r = k
    · subst e
      rw [hw] at h2
      cases h2
      refine .inr ⟨p, ?_, h3⟩
      have := (List.getElem?_eq_some_iff.1 h3.2).1
      omega
    · exact .inl ⟨r, by omega, w2, h2, p, h3⟩
theorem MetP.fin {es : List (Nat × Nat)} {n : Nat} {M : Nat → Bool} (h : MetP es n (np es n 0) M) (hes : ∀ e ∈ es, e.1 < n ∧ e.2 < n) (hg : Good es 0) (hn : 0 < n) {j : Nat} (hj : j < es.length) : M j = true ↔ Rch es 0 (Ej es j).1 ∧ Rch es (Ej es j).2 (n - 1) := by
  have e : Ej es j = es[j] := by unfold Ej; simp [hj]
  have hm : ((Ej es j).1, (Ej es j).2) ∈ es := by rw [e]; exact List.getElem_mem hj
  rw [h j hj, on_path hes hn hm]
  constructor
  · rintro ⟨r, _, w, hw, q, h2⟩
    exact ⟨w, paths_isPath (List.mem_of_getElem? hw), q, h2⟩
  · rintro ⟨w, hp, q, h2⟩
    have := rk_get hes hp hg hn
    exact ⟨rk es n w, (List.getElem?_eq_some_iff.1 this).1, w, this, q, h2⟩
end Go.Mine.Path
