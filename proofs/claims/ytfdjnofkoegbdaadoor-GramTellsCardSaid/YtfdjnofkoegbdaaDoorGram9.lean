/- assayerref2.MadeOf, HasWord: the walk. No conditions. -/
import Derived.Test.YtfdjnofkoegbdaaDoorGram8
import Derived.Test.YtfdjnofkoegbdaaDoorMore
namespace Go.Proofs.YtfdjnofkoegbdaaDoor
open Go.RowKit Go.Mine Go.Mine.Gram

/-- A table's flags. -/
def tab (cl : List Bool) (i a b : Nat) : Bool := cl.getD (i * 81 + a * 9 + b) false
theorem tab_spn {cl : List Bool} {ws xs : List Int} {a b : Nat} (hw : ws.length ≤ 8) : Spn (Sc (tab cl)) ws xs a b ↔ Spn (Sb cl) ws xs a b :=
  ⟨fun h => h.mono fun i a b h1 h2 h3 => ⟨by omega, by omega, h3⟩, fun h => h.mono fun i a b _ _ h3 => h3.2.2⟩
/-- What names make, as it is written. -/
structure Md (W w : World) (m n L : Nat) (q : Nat → Nat) (p : Nat → Nat → Nat) (c : Nat → Nat → Nat → Bool) : Prop where
  row : ∀ i, i < n → ∃ rc, w.cell? ⟨m, i, none⟩ = some (.slice (some ⟨q i, 0, none⟩) L rc)
  col : ∀ i a, i < n → a < L → w.cell? ⟨q i, a, none⟩ = some (sl L (p i a))
  cells : ∀ i a, i < n → a < L → w.ownsRow W.heap.size 4 1 (sl L (p i a)) L ((List.range L).map fun e => Value.bool (c i a e))
  inj : ∀ i a i' a', i < n → a < L → i' < n → a' < L → p i a = p i' a' → i = i' ∧ a = a'
  off : ∀ i a, i < n → a < L → p i a ≠ m ∧ ∀ i', i' < n → p i a ≠ q i'
  below : Below W.heap.size W w
theorem Md.made {W w : World} {m n L : Nat} {q : Nat → Nat} {p : Nat → Nat → Nat} {c : Nat → Nat → Nat → Bool} (h : Md W w m n L q p c) : MadeAt w (some ⟨m, 0, none⟩) n L c := fun i hi => by
  obtain ⟨rc, h1⟩ := h.row i hi
  refine ⟨m, 0, q i, rc, rfl, by rw [Nat.zero_add]; exact h1, fun a ha => ⟨p i a, L, h.col i a hi ha, fun e he => ?_⟩⟩
  rw [(h.cells i a hi ha).cellAt e (by simpa using he)]
  simp [he]
theorem Md.cell {W w : World} {m n L : Nat} {q : Nat → Nat} {p : Nat → Nat → Nat} {c : Nat → Nat → Nat → Bool} (h : Md W w m n L q p c) {i a e : Nat} (hi : i < n) (ha : a < L) (he : e < L) : w.cell? ⟨p i a, e, none⟩ = some (.bool (c i a e)) := by
  rw [(h.cells i a hi ha).cellAt e (by simpa using he)]
  simp [he]
/-- One flag is set. -/
theorem Md.set {W w : World} {m n L : Nat} {q : Nat → Nat} {p : Nat → Nat → Nat} {cl : List Bool} (h : Md W w m n L q p (tab cl)) (hL : L ≤ 9) (hc : cl.length = n * 81) {i a e : Nat} (hi : i < n) (ha : a < L) (he : e < L) :
    Md W (w.setCell ⟨p i a, e, none⟩ (.bool true)) m n L q p (tab (cl.set (i * 81 + a * 9 + e) true)) := by
  have hcell : ∀ (g o : Nat), g ≠ p i a → (w.setCell ⟨p i a, e, none⟩ (.bool true)).cell? ⟨g, o, none⟩ = w.cell? ⟨g, o, none⟩ := fun g o hg =>
    World.cell?_of_block (w := w) (heap_setCell_other _ _ _ _ hg)
  have htab : ∀ i' a' e', a' < L → e' < L → tab (cl.set (i * 81 + a * 9 + e) true) i' a' e' = if i' = i ∧ a' = a ∧ e' = e then true else tab cl i' a' e' := fun i' a' e' h1 h2 => by
    unfold tab
    rw [getD_set]
    by_cases hh : i' = i ∧ a' = a ∧ e' = e
    · obtain ⟨rfl, rfl, rfl⟩ := hh
      have hlt : i' * 81 + a' * 9 + e' < cl.length := by omega
      rw [if_pos ⟨rfl, hlt⟩, if_pos ⟨rfl, rfl, rfl⟩]
    · rw [if_neg hh, if_neg (fun h3 => hh (by obtain ⟨e1, e2, e3⟩ := idx_inj (by omega) (by omega) (by omega) (by omega) h3.1; exact ⟨e1.symm, e2.symm, e3.symm⟩))]
  refine ⟨fun i' hi' => ?_, fun i' a' hi' ha' => ?_, fun i' a' hi' ha' => ?_, h.inj, h.off, h.below.setCell (p := ⟨p i a, e, none⟩) ((h.cells i a hi ha).lt _ rfl).1 _⟩
  · obtain ⟨rc, h1⟩ := h.row i' hi'
    exact ⟨rc, (hcell _ _ (fun e => (h.off i a hi ha).1 e.symm)).trans h1⟩
  · exact (hcell _ _ (fun e => (h.off i a hi ha).2 i' hi' e.symm)).trans (h.col i' a' hi' ha')
  · by_cases hp : i' = i ∧ a' = a
    · obtain ⟨rfl, rfl⟩ := hp
      have h1 := ((h.cells i' a' hi ha).stored e (.bool true)).1
      have e1 : ((List.range L).map fun e => Value.bool (tab cl i' a' e)).set e (.bool true) = (List.range L).map fun e' => Value.bool (tab (cl.set (i' * 81 + a' * 9 + e) true) i' a' e') := by
        apply List.ext_getElem
        · simp
        · intro j h1 h2
          simp only [List.length_map, List.length_range] at h2
          rw [List.getElem_set]
          simp only [List.getElem_map, List.getElem_range]
          rw [htab i' a' j ha h2]
          by_cases hj : e = j
          · subst hj; simp
          · rw [if_neg hj, if_neg (by omega)]
      rw [e1] at h1
      exact h1
    · have h1 := h.cells i' a' hi' ha'
      have e1 : ((List.range L).map fun e' => Value.bool (tab (cl.set (i * 81 + a * 9 + e) true) i' a' e')) = (List.range L).map fun e' => Value.bool (tab cl i' a' e') := by
        apply List.map_congr_left
        intro j hj
        rw [htab i' a' j ha' (List.mem_range.1 hj), if_neg (fun hh => hp ⟨hh.1, hh.2.1⟩)]
      rw [e1]
      exact owns_block h1 fun g _ hg => by
        simp only [sl, Value.ownBlock, Option.some.injEq] at hg
        subst hg
        exact heap_setCell_other _ _ _ _ (fun e => hp (h.inj _ _ _ _ hi' ha' hi ha e))
theorem Md.keep {W w w' : World} {m n L : Nat} {q : Nat → Nat} {p : Nat → Nat → Nat} {c : Nat → Nat → Nat → Bool} (h : Md W w m n L q p c) (hb : Below w.heap.size w w') : Md W w' m n L q p c :=
  ⟨fun i hi => by obtain ⟨rc, h1⟩ := h.row i hi; exact ⟨rc, (hb.cell (p := ⟨m, i, none⟩) (World.block_lt_of_cell? w _ h1)).trans h1⟩,
   fun i a hi ha => (hb.cell (p := ⟨q i, a, none⟩) (World.block_lt_of_cell? w _ (h.col i a hi ha))).trans (h.col i a hi ha),
   fun i a hi ha => owns_below (h.cells i a hi ha) hb, h.inj, h.off, h.below.trans (hb.mono h.below.size)⟩
/-- What is made, none set. -/
theorem Mk8.md {W w : World} {L n g cap : Nat} {pall qall : List Nat} {ms : List Value} (h : Mk8 W w L n 0 pall qall (.slice none 0 0) (.slice (some ⟨g, 0, none⟩) n cap) ms) (hL : L ≤ maxLen) (hL0 : 0 < L) :
    Md W w g n L (fun i => qall.getD i 0) (fun i a => pall.getD (i * L + a) 0) (tab (List.replicate (n * 81) false)) := by
  have hpl := h.plen
  have hidx : ∀ i a, i < n → a < L → i * L + a < pall.length := fun i a hi ha => by
    have := Nat.mul_le_mul_right L (show i + 1 ≤ n by omega)
    rw [Nat.add_mul] at this
    omega
  have hmem : ∀ i a, i < n → a < L → pall.getD (i * L + a) 0 ∈ pall := fun i a hi ha => by
    have := hidx i a hi ha
    simp [this]
  have hqm : ∀ i, i < n → qall.getD i 0 ∈ qall := fun i hi => by have := h.qlen; simp [show i < qall.length by omega]
  have hnd := List.nodup_append.1 h.nodup
  refine ⟨fun i hi => ?_, fun i a hi ha => ?_, fun i a hi ha => ?_, fun i a i' a' hi ha hi' ha' e => ?_, fun i a hi ha => ⟨fun e => ?_, fun i' hi' e => ?_⟩, h.below⟩
  · obtain ⟨rc, h1⟩ := h.ms i hi
    refine ⟨rc, ?_⟩
    have hml : ms.length = n := by have := h.made.1; omega
    rw [h.made.cellAt i (by omega)]
    exact h1
  · obtain ⟨cur, h1, h2⟩ := h.qs i hi
    rw [cell_of_row w _ _ _ _ _ h1]
    exact h2 a ha
  · obtain ⟨h1, h2⟩ := h.flags _ (hmem i a hi ha)
    have h3 := owns_laid (base := W.heap.size) (n := L) (size := 1) h1 h2 (by simp [madeCells]) hL
    have e1 : (madeCells #[Value.bool false] L).toList = (List.range L).map fun e => Value.bool (tab (List.replicate (n * 81) false) i a e) := by
      apply List.ext_getElem
      · simp [madeCells]
      · intro j h1 h2
        simp [madeCells, tab, Nat.mod_one, List.getElem?_replicate]
        split <;> rfl
    rw [e1] at h3
    exact h3
  · have h1 := hidx i a hi ha
    have h2 := hidx i' a' hi' ha'
    simp only [List.getD, List.getElem?_eq_getElem h1, List.getElem?_eq_getElem h2, Option.getD_some] at e
    have e3 : i * L + a = i' * L + a' := by
      have hpw := List.pairwise_iff_getElem.1 (List.nodup_iff_pairwise_ne.1 hnd.1)
      rcases Nat.lt_trichotomy (i * L + a) (i' * L + a') with h3 | h3 | h3
      · exact absurd e (hpw _ _ h1 h2 h3)
      · exact h3
      · exact absurd e.symm (hpw _ _ h2 h1 h3)
    have hd : i = i' := by
      have := congrArg (· / L) e3
      simp only [Nat.mul_comm _ L, Nat.mul_add_div hL0, Nat.div_eq_of_lt ha, Nat.div_eq_of_lt ha', Nat.add_zero] at this
      exact this
    subst hd
    exact ⟨rfl, by omega⟩
  · have e' : pall.getD (i * L + a) 0 = g := e
    exact h.offm g (List.mem_append_left _ (e' ▸ hmem i a hi ha)) rfl
  · exact hnd.2.2 _ (hmem i a hi ha) _ (hqm i' hi') e
end Go.Proofs.YtfdjnofkoegbdaaDoor
