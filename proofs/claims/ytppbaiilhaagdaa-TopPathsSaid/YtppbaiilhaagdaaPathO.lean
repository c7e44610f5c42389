/- Edges that lie on some way: plain law, no program. No conditions. -/
import Derived.Test.YtppbaiilhaagdaaPathR
namespace Go.Mine.Path

/-- From s within so many edges; to t within so many. -/
def RkS (es : List (Nat × Nat)) (s : Nat) : Nat → Nat → Prop
  | 0, v => v = s
  | r + 1, v => RkS es s r v ∨ ∃ u, RkS es s r u ∧ (u, v) ∈ es
def RkT (es : List (Nat × Nat)) (t : Nat) : Nat → Nat → Prop
  | 0, v => v = t
  | r + 1, v => RkT es t r v ∨ ∃ u, RkT es t r u ∧ (v, u) ∈ es
theorem RkS.mono {es : List (Nat × Nat)} {s r q v : Nat} (h : RkS es s r v) (hq : r ≤ q) : RkS es s q v := by
  obtain ⟨d, rfl⟩ := Nat.exists_eq_add_of_le hq
  clear hq
  induction d with
  | zero => exact h
  | succ d ih => exact .inl ih
theorem RkT.mono {es : List (Nat × Nat)} {t r q v : Nat} (h : RkT es t r v) (hq : r ≤ q) : RkT es t q v := by
  obtain ⟨d, rfl⟩ := Nat.exists_eq_add_of_le hq
  clear hq
  induction d with
  | zero => exact h
  | succ d ih => exact .inl ih
theorem rch_walk {es : List (Nat × Nat)} {a b : Nat} (h : Rch es a b) : ∃ w, Walk es (a :: w) ∧ (a :: w).getLast? = some b := by
  induction h with
  | refl => exact ⟨[], trivial, rfl⟩
  | @step b c _ he ih =>
    obtain ⟨w, hw, hl⟩ := ih
    refine ⟨w ++ [c], ?_, by rw [← List.cons_append, List.getLast?_append]; simp⟩
    have key : ∀ {u : List Nat} {x : Nat}, Walk es (x :: u) → (x :: u).getLast? = some b → Walk es (x :: (u ++ [c])) := by
      intro u
      induction u with
      | nil => intro x _ hl; simp at hl; subst hl; exact ⟨he, trivial⟩
      | cons y u ih => intro x hw hl; exact ⟨hw.1, ih hw.2 (by simpa using hl)⟩
    exact key hw hl
theorem walk_rks {es : List (Nat × Nat)} {s : Nat} : ∀ {w : List Nat} {a b r : Nat}, RkS es s r a → Walk es (a :: w) → (a :: w).getLast? = some b → RkS es s (r + w.length) b
  | [], a, b, r, h, _, hl => by simp at hl; subst hl; exact h
  | x :: w, a, b, r, h, hw, hl => by
    have := walk_rks (r := r + 1) (w := w) (a := x) (b := b) (.inr ⟨a, h, hw.1⟩) hw.2 (by simpa using hl)
    rw [List.length_cons]
    rwa [show r + (w.length + 1) = r + 1 + w.length by omega]
theorem walk_rkt {es : List (Nat × Nat)} {t : Nat} : ∀ {w : List Nat} {a : Nat}, Walk es (a :: w) → (a :: w).getLast? = some t → RkT es t w.length a
  | [], a, _, hl => by simp at hl; exact hl
  | x :: w, a, hw, hl => .inr ⟨x, walk_rkt (w := w) hw.2 (by simpa using hl), hw.1⟩
theorem rch_rks {es : List (Nat × Nat)} {n a b : Nat} (hes : ∀ e ∈ es, e.1 < n ∧ e.2 < n) (hg : Good es a) (ha : a < n) (h : Rch es a b) : RkS es a n b := by
  obtain ⟨w, hw, hl⟩ := rch_walk h
  have hs := hw.short hes hg ha
  have := walk_rks (s := a) (r := 0) rfl hw hl
  exact this.mono (by simp at hs; omega)
theorem rch_rkt {es : List (Nat × Nat)} {n a b : Nat} (hes : ∀ e ∈ es, e.1 < n ∧ e.2 < n) (hg : Good es a) (ha : a < n) (h : Rch es a b) : RkT es b n a := by
  obtain ⟨w, hw, hl⟩ := rch_walk h
  have hs := hw.short hes hg ha
  exact (walk_rkt hw hl).mono (by simp at hs; omega)
/-- In the midst of a round: i edges are gone. -/
structure Mids (es : List (Nat × Nat)) (n i : Nat) (F0 T0 F T : Nat → Bool) : Prop where
  up : ∀ v, F0 v = true → F v = true
  upT : ∀ v, T0 v = true → T v = true
  fe : ∀ j a b, j < i → es[j]? = some (a, b) → F0 a = true → F b = true
  te : ∀ j a b, j < i → es[j]? = some (a, b) → T0 b = true → T a = true
  sF : ∀ v, F v = true → Rch es 0 v
  sT : ∀ v, T v = true → Rch es v (n - 1)
/-- So many rounds are gone. -/
structure Rounds (es : List (Nat × Nat)) (n r : Nat) (F T : Nat → Bool) : Prop where
  sF : ∀ v, F v = true → Rch es 0 v
  sT : ∀ v, T v = true → Rch es v (n - 1)
  cF : ∀ v, RkS es 0 r v → F v = true
  cT : ∀ v, RkT es (n - 1) r v → T v = true
theorem Rounds.start (es : List (Nat × Nat)) (n : Nat) : Rounds es n 0 (upd (fun _ => false) 0 true) (upd (fun _ => false) (n - 1) true) := by
  refine ⟨fun v h => ?_, fun v h => ?_, fun v h => ?_, fun v h => ?_⟩
  · by_cases e : v = 0
    · subst e; exact .refl 0
    · rw [upd_ne _ _ e] at h; cases h
  · by_cases e : v = n - 1
    · rw [e]; exact .refl _
    · rw [upd_ne _ _ e] at h; cases h
  · have : v = 0 := h
    rw [this, upd_same]
  · have : v = n - 1 := h
    rw [this, upd_same]
theorem Rounds.mid {es : List (Nat × Nat)} {n r : Nat} {F T : Nat → Bool} (h : Rounds es n r F T) : Mids es n 0 F T F T :=
  ⟨fun _ h => h, fun _ h => h, fun _ _ _ h => by omega, fun _ _ _ h => by omega, h.sF, h.sT⟩
theorem Mids.step {es : List (Nat × Nat)} {n i a b : Nat} {F0 T0 F T : Nat → Bool} (h : Mids es n i F0 T0 F T) (he : es[i]? = some (a, b)) : Mids es n (i + 1) F0 T0 (upd F b (F b || F a)) (upd T a (T a || T b)) := by
  have hm := List.mem_of_getElem? he
  have kF : ∀ v, F v = true → upd F b (F b || F a) v = true := fun v hv => by
    by_cases e : v = b
    · subst e; rw [upd_same, hv]; rfl
    · rw [upd_ne _ _ e]; exact hv
  have kT : ∀ v, T v = true → upd T a (T a || T b) v = true := fun v hv => by
    by_cases e : v = a
    · subst e; rw [upd_same, hv]; rfl
    · rw [upd_ne _ _ e]; exact hv
  refine ⟨fun v hv => kF v (h.up v hv), fun v hv => kT v (h.upT v hv), fun j x y hj hxy h0 => ?_, fun j x y hj hxy h0 => ?_, fun v hv => ?_, fun v hv => ?_⟩
  · by_cases e : j = i
    · subst e
      rw [he] at hxy
      cases hxy
      rw [upd_same, h.up _ h0]; simp
    · exact kF y (h.fe j x y (by omega) hxy h0)
  · by_cases e : j = i
    · subst e
      rw [he] at hxy
      cases hxy
      rw [upd_same, h.upT _ h0]; simp
    · exact kT x (h.te j x y (by omega) hxy h0)
  · by_cases e : v = b
    · subst e
      rw [upd_same, Bool.or_eq_true] at hv
      rcases hv with hv | hv
      · exact h.sF _ hv
      · exact (h.sF _ hv).step hm
    · rw [upd_ne _ _ e] at hv; exact h.sF v hv
  · by_cases e : v = a
    · subst e
      rw [upd_same, Bool.or_eq_true] at hv
      rcases hv with hv | hv
      · exact h.sT _ hv
      · exact Rch.head hm (h.sT _ hv)
    · rw [upd_ne _ _ e] at hv; exact h.sT v hv
theorem Rounds.next {es : List (Nat × Nat)} {n r : Nat} {F0 T0 F T : Nat → Bool} (h : Rounds es n r F0 T0) (hm : Mids es n es.length F0 T0 F T) : Rounds es n (r + 1) F T := by
  refine ⟨hm.sF, hm.sT, fun v hv => ?_, fun v hv => ?_⟩
  · rcases hv with hv | ⟨u, hu, he⟩
    · exact hm.up v (h.cF v hv)
    · obtain ⟨j, hj, hje⟩ := List.mem_iff_getElem.1 he
      exact hm.fe j u v hj (by rw [List.getElem?_eq_getElem hj, hje]) (h.cF u hu)
  · rcases hv with hv | ⟨u, hu, he⟩
    · exact hm.upT v (h.cT v hv)
    · obtain ⟨j, hj, hje⟩ := List.mem_iff_getElem.1 he
      exact hm.te j v u hj (by rw [List.getElem?_eq_getElem hj, hje]) (h.cT u hu)
theorem Rounds.fin {es : List (Nat × Nat)} {n : Nat} {F T : Nat → Bool} (h : Rounds es n n F T) (hes : ∀ e ∈ es, e.1 < n ∧ e.2 < n) (hg : ∀ i, Good es i) (hn : 0 < n) {a b : Nat} (hb : b < n) : (F a && T b) = true ↔ Rch es 0 a ∧ Rch es b (n - 1) := by
  rw [Bool.and_eq_true]
  exact ⟨fun ⟨h1, h2⟩ => ⟨h.sF _ h1, h.sT _ h2⟩, fun ⟨h1, h2⟩ => ⟨h.cF _ (rch_rks hes (hg 0) hn h1), h.cT _ (rch_rkt hes (hg b) hb h2)⟩⟩
/-- a and b stand one behind the other. -/
def Pair (w : List Nat) (a b : Nat) : Prop := ∃ q, w[q]? = some a ∧ w[q + 1]? = some b
theorem walk_from {es : List (Nat × Nat)} : ∀ {w : List Nat} {x y q : Nat}, Walk es (x :: w) → (x :: w)[q]? = some y → Rch es x y
  | _, x, y, 0, _, h => by simp at h; subst h; exact .refl _
  | [], x, y, q + 1, _, h => by simp at h
  | b :: r, x, y, q + 1, hw, h => Rch.head hw.1 (walk_from (w := r) hw.2 (by simpa using h))
theorem walk_to {es : List (Nat × Nat)} : ∀ {w : List Nat} {x y t q : Nat}, Walk es (x :: w) → (x :: w)[q]? = some y → (x :: w).getLast? = some t → Rch es y t
  | [], x, y, t, 0, _, h, hl => by simp at h hl; subst h hl; exact .refl _
  | [], x, y, t, q + 1, _, h, _ => by simp at h
  | b :: r, x, y, t, 0, hw, h, hl => by
    simp at h
    subst h
    exact Rch.head hw.1 (walk_to (w := r) (q := 0) hw.2 rfl (by simpa using hl))
  | b :: r, x, y, t, q + 1, hw, h, hl => walk_to (w := r) hw.2 (by simpa using h) (by simpa using hl)
theorem walk_join {es : List (Nat × Nat)} : ∀ {u v : List Nat} {x a b : Nat}, Walk es (x :: u) → (x :: u).getLast? = some a → (a, b) ∈ es → Walk es (b :: v) → Walk es (x :: u ++ b :: v)
  | [], v, x, a, b, _, hl, he, hv => by simp at hl; subst hl; exact ⟨he, hv⟩
  | y :: u, v, x, a, b, hu, hl, he, hv => ⟨hu.1, walk_join (u := u) hu.2 (by simpa using hl) he hv⟩
theorem on_path {es : List (Nat × Nat)} {n a b : Nat} (hes : ∀ e ∈ es, e.1 < n ∧ e.2 < n) (hn : 0 < n) (he : (a, b) ∈ es) : (Rch es 0 a ∧ Rch es b (n - 1)) ↔ ∃ w, IsPath es n 0 w ∧ Pair w a b := by
  constructor
  · rintro ⟨h1, h2⟩
    obtain ⟨u, hu, hul⟩ := rch_walk h1
    obtain ⟨v, hv, hvl⟩ := rch_walk h2
    have hw := walk_join hu hul he hv
    refine ⟨0 :: u ++ b :: v, isPath_of_walk hes hn hw (by show ((0 :: u) ++ (b :: v)).getLast? = _; rw [List.getLast?_append, hvl]; rfl), u.length, ?_, ?_⟩
    · rw [List.getElem?_append_left (by simp)]
      rw [List.getLast?_eq_getElem?] at hul
      simpa using hul
    · rw [List.getElem?_append_right (by simp)]
      simp
  · rintro ⟨w, hp, q, h1, h2⟩
    obtain ⟨r, rfl⟩ := hp.start
    exact ⟨walk_from hp.walk h1, walk_to hp.walk h2 hp.end_⟩
end Go.Mine.Path
