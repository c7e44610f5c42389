/- The lists of what can be gone to, made edge by edge; what is told at the end. -/
import Derived.Test.YtnbnfgljbhidbaaDoorP
namespace Go.Mine.Tour

structure Built (es : List (Int × Int)) (n : Nat) (next : List (List Int)) (k : Nat) : Prop where
  len : next.length = n
  in_next : ∀ r ∈ next, ∀ x ∈ r, 0 ≤ x ∧ x < n
  rem : ∀ a b : Int, 0 ≤ a → a < n → rem next a b = (es.take k).count (a, b)
  outs : ∀ v : Int, 0 ≤ v → v < n → (next.getD v.toNat []).length = (es.take k).countP (fun e => decide (e.1 = v))
  ins : ∀ v : Int, next.flatten.count v = (es.take k).countP (fun e => decide (e.2 = v))
  total : next.flatten.length = k
  short : ∀ r ∈ next, r.length ≤ k

theorem Built.start (es : List (Int × Int)) (n : Nat) : Built es n (List.replicate n []) 0 := by
  have hg : ∀ i, (List.replicate n ([] : List Int)).getD i [] = [] := fun i => by
    by_cases h : i < n <;> simp [h]
  have hf : (List.replicate n ([] : List Int)).flatten = [] := by
    rw [List.flatten_eq_nil_iff]
    intro l hl
    exact (List.mem_replicate.1 hl).2
  refine ⟨by simp, ?_, ?_, ?_, ?_, ?_, ?_⟩
  · intro r hr x hx
    rw [(List.mem_replicate.1 hr).2] at hx
    cases hx
  · intro a b _ _
    unfold Tour.rem
    rw [hg]; simp
  · intro v _ _
    rw [hg]; simp
  · intro v; rw [hf]; simp
  · rw [hf]; rfl
  · intro r hr
    rw [(List.mem_replicate.1 hr).2]
    simp

theorem set_back (next : List (List Int)) (i : Nat) (r : List Int) (hi : i < next.length) : (next.set i r).set i (next.getD i []) = next := by
  rw [List.set_set]
  have : next.getD i [] = next[i] := by simp [List.getD, hi]
  rw [this, List.set_getElem_self]

theorem Built.step {es : List (Int × Int)} {n : Nat} {next : List (List Int)} {k : Nat} (h : Built es n next k) (hk : k < es.length) {a b : Int} (he : es.getD k (0, 0) = (a, b)) (ha : 0 ≤ a ∧ a < n) (hb : 0 ≤ b ∧ b < n) :
    Built es n (next.set a.toNat (next.getD a.toNat [] ++ [b])) (k + 1) := by
  have hi : a.toNat < next.length := by rw [h.len]; omega
  have ht : es.take (k + 1) = es.take k ++ [(a, b)] := by
    rw [List.take_succ_eq_append_getElem hk]
    simp [hk] at he
    rw [he]
  have hback := set_back next a.toNat (next.getD a.toNat [] ++ [b]) hi
  have hi' : a.toNat < (next.set a.toNat (next.getD a.toNat [] ++ [b])).length := by simpa using hi
  have hg : (next.set a.toNat (next.getD a.toNat [] ++ [b])).getD a.toNat [] = next.getD a.toNat [] ++ [b] := by rw [getD_set _ _ _ _ hi, if_pos rfl]
  refine ⟨by simp [h.len], ?_, ?_, ?_, ?_, ?_, ?_⟩
  · intro r hr x hx
    rcases List.mem_or_eq_of_mem_set hr with hm | rfl
    · exact h.in_next r hm x hx
    · rcases List.mem_append.1 hx with hx | hx
      · have hm : next.getD a.toNat [] ∈ next := by simp [List.getD, hi]
        exact h.in_next _ hm x hx
      · simp at hx; subst hx; exact hb
  · intro c d hc0 hcn
    have h1 := h.rem c d hc0 hcn
    unfold Tour.rem at h1 ⊢
    rw [getD_set _ _ _ _ hi, ht, List.count_append, List.count_singleton]
    by_cases e : c = a
    · subst e
      rw [if_pos rfl, List.count_append, List.count_singleton, h1]
      by_cases e2 : b = d
      · simp [e2]
      · simp [e2]
    · have e' : c.toNat ≠ a.toNat := by omega
      rw [if_neg e', h1]
      simp [Ne.symm e]
  · intro v hv0 hvn
    have h1 := h.outs v hv0 hvn
    rw [getD_set _ _ _ _ hi, ht, List.countP_append, List.countP_singleton]
    by_cases e : v = a
    · subst e
      rw [if_pos rfl, List.length_append, h1]
      simp
    · have e' : v.toNat ≠ a.toNat := by omega
      rw [if_neg e', h1]
      simp [Ne.symm e]
  · intro v
    have h1 := flat_count v b _ _ _ hi' hg
    rw [hback, h.ins v] at h1
    rw [h1, ht, List.countP_append, List.countP_singleton]
    by_cases e : b = v
    · simp [e]
    · simp [e]
  · have h1 := flat_length b _ _ _ hi' hg
    rw [hback, h.total] at h1
    exact h1
  · intro r hr
    rcases List.mem_or_eq_of_mem_set hr with hm | rfl
    · exact Nat.le_succ_of_le (h.short r hm)
    · have hm : next.getD a.toNat [] ∈ next := by simp [List.getD, hi]
      have := h.short _ hm
      simp only [List.length_append, List.length_singleton]
      omega

theorem Built.mid {es : List (Int × Int)} {n : Nat} {next : List (List Int)} (h : Built es n next es.length) (hn : 0 < n)
    (hbal : ∀ v : Int, 0 ≤ v → v < n → es.countP (fun e => decide (e.1 = v)) = es.countP (fun e => decide (e.2 = v))) : Mid es n next [0] [] 0 0 := by
  have ht : es.take es.length = es := List.take_length
  refine ⟨h.len, ?_, h.in_next, rfl, rfl, .inl rfl, by omega, ?_, ?_, ?_, ?_, (fun _ => rfl), fun x hx => by cases hx⟩
  · intro x hx; simp at hx; subst hx; omega
  · intro v hv0 hvn
    have h1 := h.outs v hv0 hvn
    have h2 := h.ins v
    have h3 := hbal v hv0 hvn
    rw [ht] at h1 h2
    omega
  · intro a b ha0 han
    have h1 := h.rem a b ha0 han
    rw [ht] at h1
    rw [h1]
    simp [cnt, one]
  · have := h.total
    simp only [List.length_singleton, List.length_nil]; omega
  · intro x hx; cases hx

theorem End.full {es : List (Int × Int)} {n : Nat} {next : List (List Int)} {out : List Int} (h : End es n next out) (ho : out.length = es.length + 1) (a b : Int) (ha : 0 ≤ a) (han : a < n) : es.count (a, b) = cnt a b out.reverse := by
  have h1 := h.many
  have h2 : next.flatten = [] := List.eq_nil_of_length_eq_zero (by omega)
  have h3 : Tour.rem next a b = 0 := by
    unfold Tour.rem
    by_cases hi : a.toNat < next.length
    · have hm : next.getD a.toNat [] ∈ next := by simp [List.getD, hi]
      rw [List.flatten_eq_nil_iff.1 h2 _ hm]
      rfl
    · simp [List.getD, hi]
  have := h.all a b ha han
  omega

/-- Edges one behind the other, from c. -/
def Walk : Int → List (Int × Int) → Prop
  | _, [] => True
  | c, e :: es => e.1 = c ∧ Walk e.2 es
theorem Walk.starts {out : List Int} : ∀ {es : List (Int × Int)} {c : Int}, Walk c es → c ∈ out → (∀ e ∈ es, e.1 ∈ out → e.2 ∈ out) → ∀ e ∈ es, e.1 ∈ out
  | e :: es, c, h, hc, hs, x, hx => by
    obtain ⟨h1, h2⟩ := h
    have he : e.1 ∈ out := by rw [h1]; exact hc
    rcases List.mem_cons.1 hx with rfl | hx
    · exact he
    · exact Walk.starts h2 (hs e (by simp) he) (fun y hy => hs y (by simp [hy])) x hx
/-- Of a walk from 0 back to 0 nothing is left. -/
theorem End.walked {es : List (Int × Int)} {n : Nat} {next : List (List Int)} {out : List Int} (h : End es n next out) (hw : Walk 0 es) (hr : ∀ e ∈ es, 0 ≤ e.1 ∧ e.1 < n) : out.length = es.length + 1 := by
  have hstep : ∀ e ∈ es, e.1 ∈ out → e.2 ∈ out := by
    intro e he ho
    have h1 := h.all e.1 e.2 (hr e he).1 (hr e he).2
    have h2 : 0 < es.count (e.1, e.2) := List.count_pos_iff.2 he
    have h3 : Tour.rem next e.1 e.2 = 0 := by unfold Tour.rem; rw [h.gone _ ho]; rfl
    have := (cnt_mem e.1 e.2 out.reverse (by omega)).2
    simpa using this
  have h0 : (0 : Int) ∈ out := List.mem_of_mem_head? (by rw [h.first]; simp)
  have hst := hw.starts h0 hstep
  have hf := flat_empty next (by
    intro i hi
    cases hrow : next.getD i [] with
    | nil => rfl
    | cons x t =>
      exfalso
      have hin : (i : Int) < n := by rw [← h.len]; omega
      have h1 := h.all (i : Int) x (by omega) hin
      have h2 : Tour.rem next (i : Int) x = (x :: t).count x := by unfold Tour.rem; rw [Int.toNat_natCast, hrow]
      have h3 : 0 < (x :: t).count x := List.count_pos_iff.2 (by simp)
      have h4 : ((i : Int), x) ∈ es := List.count_pos_iff.1 (by omega)
      have h5 := h.gone _ (hst _ h4)
      rw [Int.toNat_natCast, hrow] at h5
      cases h5)
  have := h.many
  omega
theorem two_round {out next} (h : End [(0, 1), (1, 0)] 2 next out) : out.reverse = [0, 1, 0] := by
  have hl := h.walked (by simp [Walk]) (by simp)
  have hf := h.full hl 0 1 (by omega) (by omega)
  have h1 := h.first
  have h2 := h.last
  match out, hl with
  | [x, y, z], _ =>
    simp at h1 h2
    subst h1
    subst h2
    simp [cnt] at hf
    have : y = 1 := by
      apply Classical.byContradiction
      intro e
      simp [e] at hf
    subst this
    rfl
end Go.Mine.Tour
