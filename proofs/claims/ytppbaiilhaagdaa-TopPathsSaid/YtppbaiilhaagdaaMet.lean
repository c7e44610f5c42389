/- Who is met, by going along edges: by visits (the program), round by round (the reference): plain numbers, no program. -/
namespace Go.Mine.Flow

/-- One comes to v without 'but': v is in every set that holds 0 and what its edges lead to. -/
def R (es : List (Nat × Nat)) (but : Int) (v : Nat) : Prop :=
  ∀ S : Nat → Prop, ((0 : Int) ≠ but → S 0) → (∀ u w, S u → (u, w) ∈ es → (w : Int) ≠ but → S w) → S v
theorem R.start {es : List (Nat × Nat)} {but : Int} (h : (0 : Int) ≠ but) : R es but 0 := fun _ h0 _ => h0 h
theorem R.step {es : List (Nat × Nat)} {but : Int} {u w : Nat} (h : R es but u) (he : (u, w) ∈ es) (hw : (w : Int) ≠ but) : R es but w := fun S h0 hs => hs u w (h S h0 hs) he hw
/-- More edges: no fewer are met. -/
theorem R.more {es es' : List (Nat × Nat)} {but : Int} {v : Nat} (h : R es but v) (hs : ∀ e, e ∈ es → e ∈ es') : R es' but v :=
  h (R es' but) R.start fun _ _ hu he hw => hu.step (hs _ he) hw
theorem R.ne {es : List (Nat × Nat)} {but : Int} {v : Nat} (h : R es but v) : (v : Int) ≠ but :=
  h (fun v => (v : Int) ≠ but) (fun h => by simpa using h) fun _ _ _ _ hw => hw
theorem R.lt {es : List (Nat × Nat)} {but : Int} {v n : Nat} (h : R es but v) (hn : 0 < n) (hs : ∀ e, e ∈ es → e.2 < n) : v < n :=
  h (fun v => v < n) (fun _ => hn) fun _ _ _ he _ => hs _ he

/-- The marks as a set. -/
def M (xs : List Bool) (u : Nat) : Prop := xs.getD u false = true
/-- All that u's edges lead to is marked, or is 'but'. -/
def Done (es : List (Nat × Nat)) (but : Int) (xs : List Bool) (u : Nat) : Prop := ∀ w, (u, w) ∈ es → (w : Int) = but ∨ M xs w
/-- What a visit to i does to the marks; S: who is being visited. -/
structure Vis (es : List (Nat × Nat)) (but : Int) (S : Nat → Prop) (i : Nat) (xs ys : List Bool) : Prop where
  len : ys.length = xs.length
  keep : ∀ u, M xs u → M ys u
  mark : (i : Int) = but ∨ M ys i
  done : (∀ u, M xs u → ¬ S u → Done es but xs u) → ∀ u, M ys u → ¬ S u → Done es but ys u
  sound : (∀ u, M xs u → R es but u) → ((i : Int) ≠ but → R es but i) → ∀ u, M ys u → R es but u

theorem Vis.idle {es : List (Nat × Nat)} {but : Int} {S : Nat → Prop} {i : Nat} {xs : List Bool} (h : (i : Int) = but ∨ M xs i) : Vis es but S i xs xs :=
  ⟨rfl, fun _ h => h, h, fun h => h, fun h _ => h⟩

theorem M_set {xs : List Bool} {i u : Nat} (hi : i < xs.length) : M (xs.set i true) u ↔ u = i ∨ M xs u := by
  unfold M
  by_cases h : u = i
  · subst h; simp [hi]
  · simp [Ne.symm h, h]

/-- In the midst of a visit: the first k edges are gone. -/
structure Mid (es : List (Nat × Nat)) (but : Int) (S : Nat → Prop) (i k : Nat) (xs ys : List Bool) : Prop where
  len : ys.length = xs.length
  keep : ∀ u, M xs u → M ys u
  mark : M ys i
  done : (∀ u, M xs u → ¬ S u → Done es but xs u) → ∀ u, M ys u → ¬ S u → u ≠ i → Done es but ys u
  part : ∀ j w, j < k → es[j]? = some (i, w) → (w : Int) = but ∨ M ys w
  sound : (∀ u, M xs u → R es but u) → R es but i → ∀ u, M ys u → R es but u

theorem Done.mono {es : List (Nat × Nat)} {but : Int} {xs ys : List Bool} {u : Nat} (h : Done es but xs u) (hm : ∀ u, M xs u → M ys u) : Done es but ys u :=
  fun w hw => (h w hw).elim .inl fun h => .inr (hm w h)

theorem Mid.start {es : List (Nat × Nat)} {but : Int} {S : Nat → Prop} {i : Nat} {xs : List Bool} (hi : i < xs.length) : Mid es but S i 0 xs (xs.set i true) :=
  ⟨by simp, fun u h => (M_set hi).2 (.inr h), (M_set hi).2 (.inl rfl), fun h u hu hs hne => ((h u (((M_set hi).1 hu).resolve_left hne) hs)).mono fun v hv => (M_set hi).2 (.inr hv),
    fun j w hj => by omega, fun h hi' u hu => by
      rcases (M_set hi).1 hu with rfl | hu
      · exact hi'
      · exact h u hu⟩

theorem Mid.skip {es : List (Nat × Nat)} {but : Int} {S : Nat → Prop} {i k a b : Nat} {xs ys : List Bool} (h : Mid es but S i k xs ys) (he : es[k]? = some (a, b)) (hne : a ≠ i) : Mid es but S i (k + 1) xs ys :=
  ⟨h.len, h.keep, h.mark, h.done, fun j w hj hw => by
    by_cases e : j = k
    · subst e; rw [he] at hw; simp at hw; omega
    · exact h.part j w (by omega) hw, h.sound⟩

theorem Mid.visit {es : List (Nat × Nat)} {but : Int} {S : Nat → Prop} {i k b : Nat} {xs ys zs : List Bool} (h : Mid es but S i k xs ys) (he : es[k]? = some (i, b)) (hv : Vis es but (fun u => S u ∨ u = i) b ys zs) : Mid es but S i (k + 1) xs zs :=
  ⟨hv.len.trans h.len, fun u hu => hv.keep u (h.keep u hu), hv.keep i h.mark, fun h0 u hu hs hne => hv.done (fun u hu hs => h.done h0 u hu (fun h => hs (.inl h)) (fun h => hs (.inr h))) u hu (fun h => h.elim hs hne),
    fun j w hj hw => by
      by_cases e : j = k
      · subst e; rw [he] at hw; simp at hw; subst hw; exact hv.mark
      · exact (h.part j w (by omega) hw).elim .inl fun h => .inr (hv.keep w h),
    fun h0 hi => hv.sound (h.sound h0 hi) fun hb => hi.step (List.mem_of_getElem? he) hb⟩

theorem Mid.fin {es : List (Nat × Nat)} {but : Int} {S : Nat → Prop} {i : Nat} {xs ys : List Bool} (h : Mid es but S i es.length xs ys) (hb : (i : Int) ≠ but) : Vis es but S i xs ys :=
  ⟨h.len, h.keep, .inr h.mark, fun h0 u hu hs => by
    by_cases e : u = i
    · subst e
      intro w hw
      obtain ⟨j, hj, hw⟩ := List.mem_iff_getElem.1 hw
      exact h.part j w hj (by rw [List.getElem?_eq_getElem hj, hw])
    · exact h.done h0 u hu hs e, fun h0 hi => h.sound h0 (hi hb)⟩

/-- From no marks: just those that are met. -/
theorem Vis.all {es : List (Nat × Nat)} {but : Int} {n : Nat} {ys : List Bool} (h : Vis es but (fun _ => False) 0 (List.replicate n false) ys) (v : Nat) : M ys v ↔ R es but v := by
  have h0 : ∀ u, ¬ M (List.replicate n false) u := fun u hu => by
    unfold M at hu
    by_cases hn : u < n <;> simp [hn] at hu
  constructor
  · exact fun hv => h.sound (fun u hu => absurd hu (h0 u)) (fun hb => R.start (by simpa using hb)) v hv
  · intro hr
    refine hr (M ys) (fun hb => h.mark.resolve_left (fun e => hb (by simpa using e))) fun u w hu he hw => ?_
    exact (h.done (fun u hu => absurd hu (h0 u)) u hu (fun h => h) w he).resolve_left hw

/-- How many are not yet marked. -/
def unmarked (xs : List Bool) : Nat := xs.countP (fun x => !x)
theorem unmarked_le : ∀ (xs ys : List Bool), ys.length = xs.length → (∀ u, M xs u → M ys u) → unmarked ys ≤ unmarked xs
  | [], [], _, _ => Nat.le_refl _
  | x :: xs, y :: ys, hl, h => by
    have h0 := h 0
    have ih := unmarked_le xs ys (by simpa using hl) (fun u hu => by have := h (u + 1) (by simpa [M] using hu); simpa [M] using this)
    unfold unmarked at *
    rw [List.countP_cons, List.countP_cons]
    cases x <;> cases y <;> simp [M] at h0 ⊢ <;> omega
theorem unmarked_set : ∀ (xs : List Bool) (i : Nat), i < xs.length → xs.getD i false = false → unmarked (xs.set i true) + 1 = unmarked xs
  | x :: xs, 0, _, h => by
    simp at h
    subst h
    simp [unmarked]
  | x :: xs, i + 1, hi, h => by
    have ih := unmarked_set xs i (by simpa using hi) (by simpa using h)
    unfold unmarked at *
    rw [List.set_cons_succ, List.countP_cons, List.countP_cons]
    omega

/-- Edges as pairs of Nats. -/
def natE (es : List (Int × Int)) : List (Nat × Nat) := es.map fun e => (e.1.toNat, e.2.toNat)
theorem natE_mem {es : List (Int × Int)} (h : ∀ e ∈ es, 0 ≤ e.1 ∧ 0 ≤ e.2) {u w : Nat} : (u, w) ∈ natE es ↔ ((u : Int), (w : Int)) ∈ es := by
  unfold natE
  constructor
  · intro hm
    obtain ⟨e, he, heq⟩ := List.mem_map.1 hm
    have := h e he
    simp only [Prod.mk.injEq] at heq
    obtain ⟨x, y⟩ := e
    have e1 : x = (u : Int) := by simp only at heq this; omega
    have e2 : y = (w : Int) := by simp only at heq this; omega
    rw [← e1, ← e2]
    exact he
  · intro hm
    exact List.mem_map.2 ⟨_, hm, by simp⟩

/-! ### Round by round (the reference) -/
/-- One edge gone. -/
def relax (but : Int) (xs : List Bool) (u w : Nat) : List Bool := if xs.getD u false = true ∧ (w : Int) ≠ but then xs.set w true else xs
theorem relax_len (but : Int) (xs : List Bool) (u w : Nat) : (relax but xs u w).length = xs.length := by unfold relax; split <;> simp
/-- Nothing leads out. -/
def Closed (es : List (Nat × Nat)) (but : Int) (xs : List Bool) : Prop := ∀ u w, (u, w) ∈ es → M xs u → (w : Int) = but ∨ M xs w
/-- In the midst of a round: the first k edges are gone. -/
structure Turn (es : List (Nat × Nat)) (but : Int) (k : Nat) (xs ys : List Bool) : Prop where
  len : ys.length = xs.length
  keep : ∀ u, M xs u → M ys u
  sound : (∀ u, M xs u → R es but u) → ∀ u, M ys u → R es but u
  still : Closed es but xs → ys = xs
  less : (ys = xs ∧ ∀ j u w, j < k → es[j]? = some (u, w) → M xs u → (w : Int) = but ∨ M xs w) ∨ unmarked ys < unmarked xs

theorem Turn.start (es : List (Nat × Nat)) (but : Int) (xs : List Bool) : Turn es but 0 xs xs :=
  ⟨rfl, fun _ h => h, fun h => h, fun _ => rfl, .inl ⟨rfl, fun j u w hj => by omega⟩⟩
theorem set_marked {xs : List Bool} {w : Nat} (h : M xs w) : xs.set w true = xs := by
  apply List.ext_getElem?
  intro j
  by_cases e : w = j
  · subst e
    unfold M at h
    by_cases hw : w < xs.length
    · simp [hw] at h ⊢; exact h
    · simp [hw] at h
  · rw [List.getElem?_set_ne e]
theorem Turn.step {es : List (Nat × Nat)} {but : Int} {k u w : Nat} {xs ys : List Bool} (h : Turn es but k xs ys) (he : es[k]? = some (u, w)) (hw : w < xs.length) : Turn es but (k + 1) xs (relax but ys u w) := by
  have hm := List.mem_of_getElem? he
  unfold relax
  by_cases hc : ys.getD u false = true ∧ (w : Int) ≠ but
  · rw [if_pos hc]
    by_cases hmw : M ys w
    · rw [set_marked hmw]
      refine ⟨h.len, h.keep, h.sound, h.still, ?_⟩
      rcases h.less with ⟨e, hd⟩ | hl
      · refine .inl ⟨e, fun j u' w' hj hj' hu => ?_⟩
        by_cases ej : j = k
        · subst ej
          rw [he] at hj'
          simp at hj'
          obtain ⟨rfl, rfl⟩ := hj'
          rw [e] at hmw
          exact .inr hmw
        · exact hd j u' w' (by omega) hj' hu
      · exact .inr hl
    · have hwl : w < ys.length := by rw [h.len]; exact hw
      have hus := unmarked_set ys w hwl (by unfold M at hmw; simpa using hmw)
      have hle := unmarked_le xs ys h.len h.keep
      refine ⟨by simp [h.len], fun v hv => (M_set hwl).2 (.inr (h.keep v hv)), fun hs v hv => ?_, fun hcl => ?_, .inr (by omega)⟩
      · rcases (M_set hwl).1 hv with rfl | hv
        · exact (h.sound hs u hc.1).step hm hc.2
        · exact h.sound hs v hv
      · have e := h.still hcl
        rw [e] at hc hmw
        exact absurd ((hcl u w hm hc.1).resolve_left hc.2) hmw
  · rw [if_neg hc]
    refine ⟨h.len, h.keep, h.sound, h.still, ?_⟩
    rcases h.less with ⟨e, hd⟩ | hl
    · refine .inl ⟨e, fun j u' w' hj hj' hu => ?_⟩
      by_cases ej : j = k
      · subst ej
        rw [he] at hj'
        simp at hj'
        obtain ⟨rfl, rfl⟩ := hj'
        rw [e] at hc
        exact .inl (Decidable.byContradiction fun hne => hc ⟨hu, hne⟩)
      · exact hd j u' w' (by omega) hj' hu
    · exact .inr hl
/-- Behind so many rounds. -/
structure Turns (es : List (Nat × Nat)) (but : Int) (n r : Nat) (xs : List Bool) : Prop where
  len : xs.length = n
  sound : ∀ u, M xs u → R es but u
  first : (0 : Int) ≠ but → M xs 0
  near : Closed es but xs ∨ unmarked xs + r + 1 ≤ n
theorem Turns.start (es : List (Nat × Nat)) (but : Int) (n : Nat) (hn : 0 < n) : Turns es but n 0 ((List.replicate n false).set 0 (decide ((0 : Int) ≠ but))) := by
  have h0 : ∀ u, ¬ M (List.replicate n false) u := fun u hu => by
    unfold M at hu
    by_cases hn : u < n <;> simp [hn] at hu
  by_cases hb : (0 : Int) ≠ but
  · rw [decide_eq_true hb]
    refine ⟨by simp, fun u hu => ?_, fun _ => (M_set (by simpa using hn)).2 (.inl rfl), .inr ?_⟩
    · rcases (M_set (by simpa using hn)).1 hu with rfl | hu
      · exact R.start hb
      · exact absurd hu (h0 u)
    · have hc : (List.replicate n false).getD 0 false = false := by simp [hn]
      have h := unmarked_set (List.replicate n false) 0 (by simpa using hn) hc
      have hu : unmarked (List.replicate n false) ≤ n := by
        unfold unmarked
        have := List.countP_le_length (p := fun x => !x) (l := List.replicate n false)
        simpa using this
      omega
  · rw [decide_eq_false hb]
    have e : (List.replicate n false).set 0 false = List.replicate n false := by
      apply List.ext_getElem (by simp)
      intro i h1 h2
      by_cases e : 0 = i
      · subst e; simp
      · rw [List.getElem_set_ne e]
    rw [e]
    exact ⟨by simp, fun u hu => absurd hu (h0 u), fun h => absurd h hb, .inl fun u w _ hu => absurd hu (h0 u)⟩
theorem Turns.round {es : List (Nat × Nat)} {but : Int} {n r : Nat} {xs ys : List Bool} (h : Turns es but n r xs) (ht : Turn es but es.length xs ys) : Turns es but n (r + 1) ys := by
  refine ⟨ht.len.trans h.len, ht.sound h.sound, fun hb => ht.keep 0 (h.first hb), ?_⟩
  rcases h.near with hc | hu
  · rw [ht.still hc]; exact .inl hc
  · rcases ht.less with ⟨e, hd⟩ | hl
    · rw [e]
      refine .inl fun u w hm hM => ?_
      obtain ⟨j, hj, hw⟩ := List.mem_iff_getElem.1 hm
      exact hd j u w hj (by rw [List.getElem?_eq_getElem hj, hw]) hM
    · exact .inr (by omega)
theorem Turns.fin {es : List (Nat × Nat)} {but : Int} {n : Nat} {xs : List Bool} (h : Turns es but n n xs) (v : Nat) : M xs v ↔ R es but v := by
  have hc : Closed es but xs := h.near.resolve_right (by omega)
  exact ⟨h.sound v, fun hr => hr (M xs) h.first fun u w hu he hw => (hc u w he hu).resolve_left hw⟩
end Go.Mine.Flow
