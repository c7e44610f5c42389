/- A slice of the call's own that begins anywhere in its block: a queue. Rows that lie apart from it. No conditions. -/
import Derived.Test.YtebkgkcfcenkgaaDoorRows4
import Derived.ArgAppend
import Derived.OwnWalk
namespace Go.Mine
open Go Go.RowKit
open Go.WideShapes (add_plain)

structure QueueAt (w : World) (B : Nat) (e : TypeId) (g o n c : Nat) (vs : List Value) : Prop where
  len : vs.length = n
  le : n ≤ c
  base : B ≤ g
  cm : c ≤ maxLen
  row : ∃ cur, w.heap[g]? = some (.cells cur e (0, 0)) ∧ o + c ≤ cur.size ∧ ∀ j u, vs[j]? = some u → cur[o + j]? = some u
theorem QueueAt.lt {w : World} {B : Nat} {e : TypeId} {g o n c : Nat} {vs : List Value} (h : QueueAt w B e g o n c vs) : g < w.heap.size := by
  obtain ⟨cur, h1, _⟩ := h.row
  rcases Nat.lt_or_ge g w.heap.size with h' | h'
  · exact h'
  · rw [Array.getElem?_eq_none h'] at h1; cases h1
theorem QueueAt.of_owns {w : World} {B : Nat} {e : TypeId} {g n c : Nat} {vs : List Value} (h : w.ownsRow B e 1 (.slice (some ⟨g, 0, none⟩) n c) n vs) : QueueAt w B e g 0 n c vs := by
  have hl := h.1
  rcases h.2 with ⟨h', _⟩ | ⟨g', cap', cur, h', hb, hg, hnc, hcm, hcs, ht⟩
  · simp at h'
  · simp only [Value.slice.injEq, Option.some.injEq, Addr.mk.injEq, and_true, true_and] at h'
    obtain ⟨rfl, rfl⟩ := h'
    refine ⟨by omega, hnc, hb, hcm, cur, hg, by omega, fun j u hu => ?_⟩
    have hj : j < vs.length := by
      rcases Nat.lt_or_ge j vs.length with h' | h'
      · exact h'
      · rw [List.getElem?_eq_none h'] at hu; cases hu
    have : (cur.toList.take (n * 1))[j]? = some u := by rw [ht]; exact hu
    rw [List.getElem?_take, if_pos (by omega)] at this
    rw [Nat.zero_add]
    simpa using this
theorem QueueAt.keep {w w' : World} {B : Nat} {e : TypeId} {g o n c : Nat} {vs : List Value} (h : QueueAt w B e g o n c vs) (hh : w'.heap[g]? = w.heap[g]?) : QueueAt w' B e g o n c vs := by
  obtain ⟨cur, h1, h2⟩ := h.row
  exact ⟨h.len, h.le, h.base, h.cm, cur, hh.trans h1, h2⟩
theorem QueueAt.cell {w : World} {B : Nat} {e : TypeId} {g o n c : Nat} {vs : List Value} (h : QueueAt w B e g o n c vs) {j : Nat} {u : Value} (hu : vs[j]? = some u) : w.cell? ⟨g, o + j, none⟩ = some u := by
  obtain ⟨cur, h1, h2, h3⟩ := h.row
  rw [cell_of_row w g (o + j) _ _ _ h1]
  exact h3 j u hu
/-- Its first one taken off. -/
theorem QueueAt.pop {w : World} {B : Nat} {e : TypeId} {g o n c : Nat} {v : Value} {vs : List Value} (h : QueueAt w B e g o (n + 1) c (v :: vs)) : QueueAt w B e g (o + 1) n (c - 1) vs := by
  obtain ⟨cur, h1, h2, h3⟩ := h.row
  have hl := h.len
  have hle := h.le
  have hcm := h.cm
  rw [List.length_cons] at hl
  refine ⟨by omega, by omega, h.base, by omega, cur, h1, by omega, fun j u hu => ?_⟩
  have := h3 (j + 1) u (by simpa using hu)
  rw [show o + 1 + j = o + (j + 1) by omega]
  exact this
theorem QueueAt.pop0 {w : World} {B : Nat} {e : TypeId} {g o : Nat} {v : Value} {vs : List Value} (h : QueueAt w B e g o 1 1 (v :: vs)) : QueueAt w B e g o 0 0 vs := by
  obtain ⟨cur, h1, h2, h3⟩ := h.row
  have hl := h.len
  rw [List.length_cons] at hl
  have hv : vs = [] := List.eq_nil_of_length_eq_zero (by omega)
  subst hv
  exact ⟨rfl, Nat.le_refl _, h.base, by simp [maxLen], cur, h1, by omega, fun j u hu => by simp at hu⟩
theorem QueueAt.spare {w : World} {B : Nat} {e : TypeId} {g o n c : Nat} {vs : List Value} (h : QueueAt w B e g o n c vs) (hr : n + 1 ≤ c) : ∀ j, j < 1 → (w.cell? ⟨g, o + n * 1 + j, none⟩).isSome = true ∧ w.frozen? ⟨g, o + n * 1 + j, none⟩ = false := by
  obtain ⟨cur, h1, h2, h3⟩ := h.row
  intro j hj
  refine ⟨?_, frozen_of_row w g _ _ _ h1⟩
  rw [cell_of_row w g _ _ _ _ h1]
  have hlt : o + n * 1 + j < cur.size := by omega
  rw [Array.getElem?_eq_getElem hlt]
  rfl
/-- One more, in place. -/
theorem QueueAt.push {w : World} {B : Nat} {e : TypeId} {g o n c : Nat} {vs : List Value} (h : QueueAt w B e g o n c vs) (hr : n + 1 ≤ c) (x : Value) : QueueAt (w.setCells g (o + n * 1) [x]) B e g o (n + 1) c (vs ++ [x]) := by
  obtain ⟨cur, h1, h2, h3⟩ := h.row
  have hl := h.len
  have hcm := h.cm
  refine ⟨by simp; omega, hr, h.base, hcm, cur.setIfInBounds (o + n * 1) x, ?_, by simpa using h2, fun j u hu => ?_⟩
  · show (w.setCell ⟨g, o + n * 1, none⟩ x).heap[g]? = _
    simp [World.setCell, Array.getElem?_modify, h1]
  · rw [Array.getElem?_setIfInBounds]
    by_cases e1 : j = n
    · subst e1
      rw [List.getElem?_append_right (by omega), hl] at hu
      rw [if_pos (by omega)]
      simp at hu
      subst hu
      rw [if_pos (by omega)]
    · rw [if_neg (by omega)]
      have hj : j < vs.length := by
        rcases Nat.lt_or_ge j (vs ++ [x]).length with h' | h'
        · simp at h'; omega
        · rw [List.getElem?_eq_none h'] at hu; cases hu
      rw [List.getElem?_append_left hj] at hu
      exact h3 j u hu

/-- Slices of numbers, that lie apart from two blocks. -/
inductive ROff (w : World) (q p : Nat) : List Value → List (List Int) → Prop
  | nil : ROff w q p [] []
  | cons {ro : Option Addr} {rc : Nat} {r : List Int} {vs : List Value} {rows : List (List Int)} (h1 : IntsAt .i64 w ro r) (h2 : r.length ≤ maxLen) (h3 : ro = none → r.length = 0) (h4 : r.length ≤ rc)
      (h5 : ∀ g o s, ro = some ⟨g, o, s⟩ → g < w.heap.size ∧ g ≠ q ∧ g ≠ p) (h : ROff w q p vs rows) : ROff w q p (.slice ro r.length rc :: vs) (r :: rows)
theorem ROff.len {w : World} {q p : Nat} {vs : List Value} {rows : List (List Int)} (h : ROff w q p vs rows) : vs.length = rows.length := by
  induction h with
  | nil => rfl
  | cons _ _ _ _ _ _ ih => simp [ih]
theorem ROff.vals {w : World} {q p : Nat} {vs : List Value} {rows : List (List Int)} (h : ROff w q p vs rows) : RVals w vs rows := by
  induction h with
  | nil => exact .nil
  | cons h1 h2 h3 h4 _ _ ih => exact .cons h1 h2 h3 h4 ih
theorem ROff.keep {w w' : World} {q p q' p' : Nat} {vs : List Value} {rows : List (List Int)} (h : ROff w q p vs rows) (hh : ∀ g, g < w.heap.size → g ≠ q → g ≠ p → w'.heap[g]? = w.heap[g]?) (hs : w.heap.size ≤ w'.heap.size) (hq : q' = q ∨ w.heap.size ≤ q') (hp : p' = p ∨ w.heap.size ≤ p') : ROff w' q' p' vs rows := by
  induction h with
  | nil => exact .nil
  | cons h1 h2 h3 h4 h5 _ ih =>
    refine .cons (fun j hj => ?_) h2 h3 h4 (fun g o s e => ?_) ih
    · obtain ⟨b, o, e1, e2⟩ := h1 j hj
      obtain ⟨g1, g2, g3⟩ := h5 b o none e1
      exact ⟨b, o, e1, (World.cell?_of_block (w := _) (hh b g1 g2 g3)).trans e2⟩
    · obtain ⟨g1, g2, g3⟩ := h5 g o s e
      refine ⟨by omega, ?_, ?_⟩
      · rcases hq with rfl | hq
        · exact g2
        · omega
      · rcases hp with rfl | hp
        · exact g3
        · omega
theorem ROff.append {w : World} {q p : Nat} {vs us : List Value} {rows ss : List (List Int)} (h : ROff w q p vs rows) (h' : ROff w q p us ss) : ROff w q p (vs ++ us) (rows ++ ss) := by
  induction h with
  | nil => exact h'
  | cons h1 h2 h3 h4 h5 _ ih => exact .cons h1 h2 h3 h4 h5 ih
theorem ROff.one1 {w : World} {q p : Nat} {vs : List Value} {rows : List (List Int)} (h : ROff w q p vs rows) : ∀ u ∈ vs, u.oneCell' = true := h.vals.one1
theorem ROff.head {w : World} {q p : Nat} {v : Value} {vs : List Value} {r : List Int} {rows : List (List Int)} (h : ROff w q p (v :: vs) (r :: rows)) : ROff w q p [v] [r] ∧ ROff w q p vs rows := by
  cases h with
  | cons h1 h2 h3 h4 h5 h => exact ⟨.cons h1 h2 h3 h4 h5 .nil, h⟩
theorem ROff.one {w : World} {q p : Nat} {v : Value} {r : List Int} (h : ROff w q p [v] [r]) : ∃ ro rc, v = .slice ro r.length rc ∧ IntsAt .i64 w ro r ∧ r.length ≤ maxLen ∧ (ro = none → r.length = 0) ∧ r.length ≤ rc := by
  cases h with
  | cons h1 h2 h3 h4 h5 h => exact ⟨_, _, rfl, h1, h2, h3, h4⟩
/-- A queue of slices of numbers and what is told so far. -/
structure St (e : TypeId) (W w : World) (Q : List (List Int)) (gq oq cq : Nat) (vq : List Value) (ov : Value) (O : List (List Int)) (vo : List Value) (p : Nat) : Prop where
  queue : QueueAt w W.heap.size e gq oq Q.length cq vq
  qoff : ROff w gq p vq Q
  out : w.ownsRow W.heap.size e 1 ov O.length vo
  ooff : ROff w gq p vo O
  own : ov.ownBlock = none ∨ ov.ownBlock = some p
  ne : ov.ownBlock ≠ some gq
  below : Below W.heap.size W w
  plt : p < w.heap.size
section
variable {e : TypeId} {W w w' : World} {Q : List (List Int)} {gq oq cq : Nat} {vq : List Value} {ov : Value} {O : List (List Int)} {vo : List Value} {p : Nat}
theorem St.call (h : St e W w Q gq oq cq vq ov O vo p) (hb : Below w.heap.size w w') : St e W w' Q gq oq cq vq ov O vo p :=
  ⟨h.queue.keep (hb.block gq h.queue.lt), h.qoff.keep (fun g hg _ _ => hb.block g hg) hb.size (.inl rfl) (.inl rfl), owns_below h.out hb, h.ooff.keep (fun g hg _ _ => hb.block g hg) hb.size (.inl rfl) (.inl rfl), h.own, h.ne, h.below.trans (hb.mono h.below.size), Nat.lt_of_lt_of_le h.plt hb.size⟩
theorem St.out_push {o : Obj} {g' n cap : Nat} {x : Value} {r : List Int} (h : St e W w Q gq oq cq vq ov O vo p) (hx : ROff w gq p [x] [r]) (ho : w'.ownsRow W.heap.size e 1 (.slice (some ⟨g', 0, none⟩) n cap) n (vo ++ [x])) (hn : n = O.length + 1)
    (hg : (w.alloc o).grownBy w' ov.ownBlock) (hat : ov.ownBlock = some g' ∨ g' = w.heap.size + 1) : St e W w' Q gq oq cq vq (.slice (some ⟨g', 0, none⟩) n cap) (O ++ [r]) (vo ++ [x]) g' := by
  have hsz := hg.size
  have hsw : (w.alloc o).heap.size = w.heap.size + 1 := by simp
  have hlt := h.queue.lt
  have hp' : g' = p ∨ w.heap.size ≤ g' := by
    rcases hat with h1 | h1
    · rcases h.own with h2 | h2
      · rw [h2] at h1; cases h1
      · rw [h2] at h1; cases h1; exact .inl rfl
    · exact .inr (by omega)
  have hblk : ∀ g, g < w.heap.size → ov.ownBlock ≠ some g → w'.heap[g]? = w.heap[g]? := fun g hg1 hg2 => by
    rw [hg.block g (by omega) (fun e => hg2 e.symm)]
    exact Below.heap_alloc _ _ _ hg1
  have hkeep : ∀ g, g < w.heap.size → g ≠ gq → g ≠ p → w'.heap[g]? = w.heap[g]? := fun g h1 _ h3 => hblk g h1 (fun e => by
    rcases h.own with h4 | h4
    · rw [h4] at e; cases e
    · rw [h4] at e; cases e; exact h3 rfl)
  have hgq : g' ≠ gq := by
    rcases hat with h1 | h1
    · exact fun e => h.ne (by rw [h1, e])
    · omega
  refine ⟨h.queue.keep (hblk gq hlt h.ne), h.qoff.keep hkeep (by omega) (.inl rfl) hp', by rw [List.length_append, List.length_singleton, ← hn]; exact ho, (h.ooff.append hx).keep hkeep (by omega) (.inl rfl) hp', .inr rfl, fun e => hgq (by simpa [Value.ownBlock] using e), ?_, (ho.lt g' rfl).2⟩
  exact (h.below.alloc h.below.size o).grown hg (by rw [hsw]; have := h.below.size; omega) (fun k hk => (h.out.lt k hk).1)
theorem St.queue_room {x : Value} {r : List Int} (h : St e W w Q gq oq cq vq ov O vo p) (hx : ROff w gq p [x] [r]) (hr : Q.length + 1 ≤ cq) : St e W (w.setCells gq (oq + Q.length * 1) [x]) (Q ++ [r]) gq oq cq (vq ++ [x]) ov O vo p := by
  have hblk : ∀ g, g < w.heap.size → g ≠ gq → (w.setCells gq (oq + Q.length * 1) [x]).heap[g]? = w.heap[g]? := fun g _ hg => heap_setCell_other _ _ _ _ hg
  have hs : (w.setCells gq (oq + Q.length * 1) [x]).heap.size = w.heap.size := by
    show (w.setCell ⟨gq, oq + Q.length * 1, none⟩ x).heap.size = _
    simp
  refine ⟨?_, (h.qoff.append hx).keep (fun g h1 h2 _ => hblk g h1 h2) (by omega) (.inl rfl) (.inl rfl), owns_block h.out fun g _ hg => ?_, h.ooff.keep (fun g h1 h2 _ => hblk g h1 h2) (by omega) (.inl rfl) (.inl rfl), h.own, h.ne, ?_, by rw [hs]; exact h.plt⟩
  · rw [List.length_append, List.length_singleton]
    exact h.queue.push hr x
  · exact hblk g (h.out.lt g hg).2 (fun e => h.ne (e ▸ hg))
  · exact h.below.setCell (p := ⟨gq, oq + Q.length * 1, none⟩) h.queue.base x
theorem St.queue_grow {n : Nat} {v' x : Value} {r : List Int} (h : St e W w Q gq oq cq vq ov O vo p) (hx : ROff w gq p [x] [r]) (ho : w'.ownsRow w.heap.size e 1 v' n (vq ++ [x])) (hn : n = Q.length + 1) (hg : w.grownBy w' none) :
    ∃ g' c', v' = .slice (some ⟨g', 0, none⟩) n c' ∧ St e W w' (Q ++ [r]) g' 0 c' (vq ++ [x]) ov O vo p := by
  have hv : ∃ g' c', v' = .slice (some ⟨g', 0, none⟩) n c' := by
    rcases ho.2 with ⟨_, h5⟩ | ⟨g, cap, _, h5, _⟩
    · omega
    · exact ⟨g, cap, h5⟩
  obtain ⟨g', c', rfl⟩ := hv
  have hlt := ho.lt g' rfl
  have hblk : ∀ g, g < w.heap.size → w'.heap[g]? = w.heap[g]? := fun g hg1 => hg.block g hg1 (by simp)
  have hs := hg.size
  have hbs := h.below.size
  refine ⟨g', c', rfl, ?_, (h.qoff.append hx).keep (fun g h1 _ _ => hblk g h1) hs (.inr hlt.1) (.inl rfl), owns_block h.out fun g _ hg' => hblk g (h.out.lt g hg').2, h.ooff.keep (fun g h1 _ _ => hblk g h1) hs (.inr hlt.1) (.inl rfl), h.own, fun e => ?_, h.below.grown hg (by omega) (fun k hk => by cases hk), Nat.lt_of_lt_of_le h.plt hs⟩
  · rw [List.length_append, List.length_singleton, ← hn]
    exact QueueAt.of_owns (owns_mono ho hbs)
  · have := (h.out.lt g' e).2
    omega
theorem St.fresh {eI : TypeId} {v6 : Value} {n : Nat} {r : List Int} (h : St e W w Q gq oq cq vq ov O vo p) (ho : w'.ownsRow w.heap.size eI 1 v6 n (r.map (Value.int .i64))) (hr : 0 < n) (hm : n ≤ maxLen) : ∃ g6 c6, v6 = .slice (some ⟨g6, 0, none⟩) r.length c6 ∧ ROff w' gq p [v6] [r] := by
  have hl := ho.1
  rw [List.length_map, Nat.mul_one] at hl
  subst hl
  have hv : ∃ g6 c6, v6 = .slice (some ⟨g6, 0, none⟩) r.length c6 ∧ r.length ≤ c6 := by
    rcases ho.2 with ⟨_, h5⟩ | ⟨g, cap, _, h5, _, _, h6, _⟩
    · omega
    · exact ⟨g, cap, h5, h6⟩
  obtain ⟨g6, c6, rfl, h6⟩ := hv
  refine ⟨g6, c6, rfl, .cons (IntsAt.of_owns ho) hm (fun h => by cases h) h6 (fun g o s hg => ?_) .nil⟩
  cases hg
  have h1 := ho.lt g6 rfl
  have h2 := h.queue.lt
  have h3 := h.plt
  exact ⟨h1.2, by omega, by omega⟩
theorem St.pop {x : Value} {r : List Int} (h : St e W w (r :: Q) gq oq cq (x :: vq) ov O vo p) : St e W w Q gq (oq + 1) (cq - 1) vq ov O vo p := by
  refine ⟨QueueAt.pop h.queue, h.qoff.head.2, h.out, h.ooff, h.own, h.ne, h.below, h.plt⟩
theorem St.pop0 {x : Value} {r : List Int} (h : St e W w (r :: Q) gq oq 1 (x :: vq) ov O vo p) : St e W w Q gq oq 0 vq ov O vo p := by
  have hl := h.queue.le
  rw [List.length_cons] at hl
  have hq : Q.length = 0 := by omega
  have h1 := h.queue
  rw [List.length_cons, hq] at h1
  exact ⟨by rw [hq]; exact QueueAt.pop0 h1, h.qoff.head.2, h.out, h.ooff, h.own, h.ne, h.below, h.plt⟩
end
end Go.Mine
