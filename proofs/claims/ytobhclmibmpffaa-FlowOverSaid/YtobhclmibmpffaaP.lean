/- Who is met, by going along edges: plain numbers, no program. -/
namespace Go.Mine.Flow

/-- One comes to v without 'but': v is in every set that holds 0 and what its edges lead to. -/
def R (es : List (Nat × Nat)) (but : Int) (v : Nat) : Prop :=
  ∀ S : Nat → Prop, ((0 : Int) ≠ but → S 0) → (∀ u w, S u → (u, w) ∈ es → (w : Int) ≠ but → S w) → S v
theorem R.start {es : List (Nat × Nat)} {but : Int} (h : (0 : Int) ≠ but) : R es but 0 := fun _ h0 _ => h0 h
theorem R.step {es : List (Nat × Nat)} {but : Int} {u w : Nat} (h : R es but u) (he : (u, w) ∈ es) (hw : (w : Int) ≠ but) : R es but w := fun S h0 hs => hs u w (h S h0 hs) he hw
/-- More edges: no fewer are met. -/
theorem R.more {es es' : List (Nat × Nat)} {but : Int} {v : Nat} (h : R es but v) (hs : ∀ e, e ∈ es → e ∈ es') : R es' but v :=
  h (R es' but) R.start fun _ _ hu he hw => hu.step (hs _ he) hw
theorem R.ne {es : List (Nat × Nat)} {but : Int} {v : Nat} (h : R es but v) : (v : Int) ≠ but :=
  h (fun v => (v : Int) ≠ but) (fun h => by simpa using h) fun _ _ _ _ hw => hw
theorem R.lt {es : List (Nat × Nat)} {but : Int} {v n : Nat} (h : R es but v) (hn : 0 < n) (hs : ∀ e, e ∈ es → e.2 < n) : v < n :=
  h (fun v => v < n) (fun _ => hn) fun _ _ _ he _ => hs _ he

/-- The marks as a set. -/
def M (xs : List Bool) (u : Nat) : Prop := xs.getD u false = true
/-- All that u's edges lead to is marked, or is 'but'. -/
def Done (es : List (Nat × Nat)) (but : Int) (xs : List Bool) (u : Nat) : Prop := ∀ w, (u, w) ∈ es → (w : Int) = but ∨ M xs w
/-- What a visit to i does to the marks; S: who is being visited. -/
structure Vis (es : List (Nat × Nat)) (but : Int) (S : Nat → Prop) (i : Nat) (xs ys : List Bool) : Prop where
  len : ys.length = xs.length
  keep : ∀ u, M xs u → M ys u
  mark : (i : Int) = but ∨ M ys i
  done : (∀ u, M xs u → ¬ S u → Done es but xs u) → ∀ u, M ys u → ¬ S u → Done es but ys u
  sound : (∀ u, M xs u → R es but u) → ((i : Int) ≠ but → R es but i) → ∀ u, M ys u → R es but u

theorem Vis.idle {es : List (Nat × Nat)} {but : Int} {S : Nat → Prop} {i : Nat} {xs : List Bool} (h : (i : Int) = but ∨ M xs i) : Vis es but S i xs xs :=
  ⟨rfl, fun _ h => h, h, fun h => h, fun h _ => h⟩

theorem M_set {xs : List Bool} {i u : Nat} (hi : i < xs.length) : M (xs.set i true) u ↔ u = i ∨ M xs u := by
  unfold M
  by_cases h : u = i
  · subst h; simp [hi]
  · simp [Ne.symm h, h]

/-- In the midst of a visit: the first k edges are gone. -/
structure Mid (es : List (Nat × Nat)) (but : Int) (S : Nat → Prop) (i k : Nat) (xs ys : List Bool) : Prop where
  len : ys.length = xs.length
  keep : ∀ u, M xs u → M ys u
  mark : M ys i
  done : (∀ u, M xs u → ¬ S u → Done es but xs u) → ∀ u, M ys u → ¬ S u → u ≠ i → Done es but ys u
  part : ∀ j w, j < k → es[j]? = some (i, w) → (w : Int) = but ∨ M ys w
  sound : (∀ u, M xs u → R es but u) → R es but i → ∀ u, M ys u → R es but u

theorem Done.mono {es : List (Nat × Nat)} {but : Int} {xs ys : List Bool} {u : Nat} (h : Done es but xs u) (hm : ∀ u, M xs u → M ys u) : Done es but ys u :=
  fun w hw => (h w hw).elim .inl fun h => .inr (hm w h)

theorem Mid.start {es : List (Nat × Nat)} {but : Int} {S : Nat → Prop} {i : Nat} {xs : List Bool} (hi : i < xs.length) : Mid es but S i 0 xs (xs.set i true) :=
  ⟨by simp, fun u h => (M_set hi).2 (.inr h), (M_set hi).2 (.inl rfl), fun h u hu hs hne => ((h u (((M_set hi).1 hu).resolve_left hne) hs)).mono fun v hv => (M_set hi).2 (.inr hv),
    fun j w hj => by omega, fun h hi' u hu => by
      rcases (M_set hi).1 hu with rfl | hu
      · exact hi'
      · exact h u hu⟩

theorem Mid.skip {es : List (Nat × Nat)} {but : Int} {S : Nat → Prop} {i k a b : Nat} {xs ys : List Bool} (h : Mid es but S i k xs ys) (he : es[k]? = some (a, b)) (hne : a ≠ i) : Mid es but S i (k + 1) xs ys :=
  ⟨h.len, h.keep, h.mark, h.done, fun j w hj hw => by
    by_cases e : j = k
    · subst e; rw [he] at hw; simp at hw; omega
    · exact h.part j w (by omega) hw, h.sound⟩

theorem Mid.visit {es : List (Nat × Nat)} {but : Int} {S : Nat → Prop} {i k b : Nat} {xs ys zs : List Bool} (h : Mid es but S i k xs ys) (he : es[k]? = some (i, b)) (hv : Vis es but (fun u => S u ∨ u = i) b ys zs) : Mid es but S i (k + 1) xs zs :=
  ⟨hv.len.trans h.len, fun u hu => hv.keep u (h.keep u hu), hv.keep i h.mark, fun h0 u hu hs hne => hv.done (fun u hu hs => h.done h0 u hu (fun h => hs (.inl h)) (fun h => hs (.inr h))) u hu (fun h => h.elim hs hne),
    fun j w hj hw => by
      by_cases e : j = k
      · subst e; rw [he] at hw; simp at hw; subst hw; exact hv.mark
      · exact (h.part j w (by omega) hw).elim .inl fun h => .inr (hv.keep w h),
    fun h0 hi => hv.sound (h.sound h0 hi) fun hb => hi.step (List.mem_of_getElem? he) hb⟩

theorem Mid.fin {es : List (Nat × Nat)} {but : Int} {S : Nat → Prop} {i : Nat} {xs ys : List Bool} (h : Mid es but S i es.length xs ys) (hb : (i : Int) ≠ but) : Vis es but S i xs ys :=
  ⟨h.len, h.keep, .inr h.mark, fun h0 u hu hs => by
    by_cases e : u = i
    · subst e
      intro w hw
      obtain ⟨j, hj, hw⟩ := List.mem_iff_getElem.1 hw
      exact h.part j w hj (by rw [List.getElem?_eq_getElem hj, hw])
    · exact h.done h0 u hu hs e, fun h0 hi => h.sound h0 (hi hb)⟩

/-- From no marks: just those that are met. -/
theorem Vis.all {es : List (Nat × Nat)} {but : Int} {n : Nat} {ys : List Bool} (h : Vis es but (fun _ => False) 0 (List.replicate n false) ys) (v : Nat) : M ys v ↔ R es but v := by
  have h0 : ∀ u, ¬ M (List.replicate n false) u := fun u hu => by
    unfold M at hu
    by_cases hn : u < n <;> simp [hn] at hu
  constructor
  · exact fun hv => h.sound (fun u hu => absurd hu (h0 u)) (fun hb => R.start (by simpa using hb)) v hv
  · intro hr
    refine hr (M ys) (fun hb => h.mark.resolve_left (fun e => hb (by simpa using e))) fun u w hu he hw => ?_
    exact (h.done (fun u hu => absurd hu (h0 u)) u hu (fun h => h) w he).resolve_left hw

/-- How many are not yet marked. -/
def unmarked (xs : List Bool) : Nat := xs.countP (fun x => !x)
theorem unmarked_le : ∀ (xs ys : List Bool), ys.length = xs.length → (∀ u, M xs u → M ys u) → unmarked ys ≤ unmarked xs
  | [], [], _, _ => Nat.le_refl _
  | x :: xs, y :: ys, hl, h => by
    have h0 := h 0
    have ih := unmarked_le xs ys (by simpa using hl) (fun u hu => by have := h (u + 1) (by simpa [M] using hu); simpa [M] using this)
    unfold unmarked at *
    rw [List.countP_cons, List.countP_cons]
    cases x <;> cases y <;> simp [M] at h0 ⊢ <;> omega
theorem unmarked_set : ∀ (xs : List Bool) (i : Nat), i < xs.length → xs.getD i false = false → unmarked (xs.set i true) + 1 = unmarked xs
  | x :: xs, 0, _, h => by
    simp at h
    subst h
    simp [unmarked]
  | x :: xs, i + 1, hi, h => by
    have ih := unmarked_set xs i (by simpa using hi) (by simpa using h)
    unfold unmarked at *
    rw [List.set_cons_succ, List.countP_cons, List.countP_cons]
    omega
end Go.Mine.Flow
