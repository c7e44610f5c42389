/- Who is reached from a node, round by round: plain law, no program. No conditions. -/
import Derived.Test.YtppbaiilhaagdaaDoorPathO
import Derived.Test.YtppbaiilhaagdaaDoorMet
namespace Go.Mine.Path
open Go.Mine.Flow

/-- A way without a node twice. -/
theorem simple_walk {es : List (Nat × Nat)} {a b : Nat} (h : Rch es a b) : ∃ w, Walk es (a :: w) ∧ (a :: w).Nodup ∧ (a :: w).getLast? = some b := by
  induction h with
  | refl => exact ⟨[], trivial, by simp, rfl⟩
  | @step b c _ he ih =>
    obtain ⟨w, hw, hn, hl⟩ := ih
    by_cases hc : c ∈ a :: w
    · have key : ∀ {u : List Nat} {x : Nat}, Walk es (x :: u) → (x :: u).Nodup → c ∈ x :: u → ∃ v, Walk es (x :: v) ∧ (x :: v).Nodup ∧ (x :: v).getLast? = some c ∧ ∀ y ∈ v, y ∈ u := by
        intro u
        induction u with
        | nil => intro x _ _ hm; simp at hm; subst hm; exact ⟨[], trivial, by simp, rfl, fun _ h => h⟩
        | cons z u ih =>
          intro x hw hn hm
          rcases List.mem_cons.1 hm with e | hm
          · subst e; exact ⟨[], trivial, by simp, rfl, fun _ h => by cases h⟩
          · obtain ⟨v, h1, h2, h3, h4⟩ := ih hw.2 (List.nodup_cons.1 hn).2 hm
            refine ⟨z :: v, ⟨hw.1, h1⟩, ?_, by simpa using h3, fun y hy => ?_⟩
            · rw [List.nodup_cons]
              refine ⟨fun hx => (List.nodup_cons.1 hn).1 ?_, h2⟩
              rcases List.mem_cons.1 hx with e | hx
              · rw [e]; exact List.mem_cons_self
              · exact List.mem_cons_of_mem _ (h4 x hx)
            · rcases List.mem_cons.1 hy with e | hy
              · rw [e]; exact List.mem_cons_self
              · exact List.mem_cons_of_mem _ (h4 y hy)
      obtain ⟨v, h1, h2, h3, _⟩ := key hw hn hc
      exact ⟨v, h1, h2, h3⟩
    · refine ⟨w ++ [c], ?_, ?_, by rw [← List.cons_append, List.getLast?_append]; simp⟩
      · have key : ∀ {u : List Nat} {x : Nat}, Walk es (x :: u) → (x :: u).getLast? = some b → Walk es (x :: (u ++ [c])) := by
          intro u
          induction u with
          | nil => intro x _ hl; simp at hl; subst hl; exact ⟨he, trivial⟩
          | cons y u ih => intro x hw hl; exact ⟨hw.1, ih hw.2 (by simpa using hl)⟩
        exact key hw hl
      · rw [← List.cons_append, List.nodup_append]
        exact ⟨hn, by simp, fun x hx y hy e => by simp at hy; subst hy; subst e; exact hc hx⟩
theorem rch_rks_any {es : List (Nat × Nat)} {n a b : Nat} (hes : ∀ e ∈ es, e.1 < n ∧ e.2 < n) (ha : a < n) (h : Rch es a b) : RkS es a n b := by
  obtain ⟨w, hw, hn, hl⟩ := simple_walk h
  have hs := len_le hn (M := List.range n) (fun x hx => List.mem_range.2 (hw.lt hes ha x hx))
  have := walk_rks (s := a) (r := 0) rfl hw hl
  exact this.mono (by simp at hs; omega)
theorem rks_rch {es : List (Nat × Nat)} {s : Nat} : ∀ {r v : Nat}, RkS es s r v → Rch es s v
  | 0, v, h => by rw [show v = s from h]; exact .refl s
  | r + 1, v, h => by
    rcases h with h | ⟨u, hu, he⟩
    · exact rks_rch h
    · exact (rks_rch hu).step he
/-- In the midst of a round: k edges are gone. -/
structure TurnF (es : List (Nat × Nat)) (s k : Nat) (xs ys : List Bool) : Prop where
  len : ys.length = xs.length
  keep : ∀ u, M xs u → M ys u
  sound : ∀ u, M ys u → Rch es s u
  part : ∀ j a b, j < k → es[j]? = some (a, b) → M xs a → M ys b
structure TurnsF (es : List (Nat × Nat)) (s n r : Nat) (xs : List Bool) : Prop where
  len : xs.length = n
  sound : ∀ u, M xs u → Rch es s u
  all : ∀ v, RkS es s r v → M xs v
theorem TurnsF.start (es : List (Nat × Nat)) {s n : Nat} (hs : s < n) : TurnsF es s n 0 ((List.replicate n false).set s true) := by
  have hl : s < (List.replicate n false).length := by simpa using hs
  have h0 : ∀ u, ¬ M (List.replicate n false) u := fun u hu => by
    unfold M at hu
    by_cases hn : u < n <;> simp [hn] at hu
  exact ⟨by simp, fun u hu => by
    rcases (M_set hl).1 hu with rfl | hu
    · exact .refl _
    · exact absurd hu (h0 u), fun v hv => (M_set hl).2 (.inl hv)⟩
theorem TurnsF.turn {es : List (Nat × Nat)} {s n r : Nat} {xs : List Bool} (h : TurnsF es s n r xs) : TurnF es s 0 xs xs :=
  ⟨rfl, fun _ h => h, h.sound, fun _ _ _ h => by omega⟩
theorem TurnF.step {es : List (Nat × Nat)} {s k u w : Nat} {xs ys : List Bool} (h : TurnF es s k xs ys) (he : es[k]? = some (u, w)) (hw : w < xs.length) : TurnF es s (k + 1) xs (if ys.getD u false = true then ys.set w true else ys) := by
  have hm := List.mem_of_getElem? he
  have hwl : w < ys.length := by rw [h.len]; exact hw
  by_cases hu : ys.getD u false = true
  · rw [if_pos hu]
    refine ⟨by simp [h.len], fun v hv => (M_set hwl).2 (.inr (h.keep v hv)), fun v hv => ?_, fun j a b hj hjab ha => ?_⟩
    · rcases (M_set hwl).1 hv with rfl | hv
      · exact (h.sound u hu).step hm
      · exact h.sound v hv
    · by_cases e : j = k
      · subst e; rw [he] at hjab; cases hjab; exact (M_set hwl).2 (.inl rfl)
      · exact (M_set hwl).2 (.inr (h.part j a b (by omega) hjab ha))
  · rw [if_neg hu]
    refine ⟨h.len, h.keep, h.sound, fun j a b hj hjab ha => ?_⟩
    by_cases e : j = k
    · subst e; rw [he] at hjab; cases hjab; exact absurd (h.keep _ ha) hu
    · exact h.part j a b (by omega) hjab ha
theorem TurnsF.round {es : List (Nat × Nat)} {s n r : Nat} {xs ys : List Bool} (h : TurnsF es s n r xs) (ht : TurnF es s es.length xs ys) : TurnsF es s n (r + 1) ys := by
  refine ⟨ht.len.trans h.len, ht.sound, fun v hv => ?_⟩
  rcases hv with hv | ⟨u, hu, he⟩
  · exact ht.keep v (h.all v hv)
  · obtain ⟨j, hj, hje⟩ := List.mem_iff_getElem.1 he
    exact ht.part j u v hj (by rw [List.getElem?_eq_getElem hj, hje]) (h.all u hu)
theorem TurnsF.fin {es : List (Nat × Nat)} {s n : Nat} {xs : List Bool} (h : TurnsF es s n n xs) (hes : ∀ e ∈ es, e.1 < n ∧ e.2 < n) (hs : s < n) (v : Nat) : M xs v ↔ Rch es s v :=
  ⟨h.sound v, fun hr => h.all v (rch_rks_any hes hs hr)⟩
end Go.Mine.Path
