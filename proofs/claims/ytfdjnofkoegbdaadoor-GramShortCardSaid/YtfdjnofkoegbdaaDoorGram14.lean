/- gram.Short: how its memory stands. No conditions. -/
import Derived.Test.YtfdjnofkoegbdaaDoorGram13
import Derived.Test.YtfdjnofkoegbdaaDoorGram1
import Derived.Test.YtfdjnofkoegbdaaDoorQueue
import Derived.Deep.LoopGhost
import Derived.Deep.OwnRows
namespace Go.Proofs.YtfdjnofkoegbdaaDoor
open Go.RowKit Go.Mine Go.Mine.Gram

theorem infoS3 : (Tryd.prog.info? 3).map (fun i => (i.zero, i.size, i.bytes)) = some (some (.int .i64 0), 1, 8) := by kernel_rfl
theorem infoS4 : (Tryd.prog.info? 4).map (fun i => (i.zero, i.size, i.bytes)) = some (some (.bool false), 1, 1) := by kernel_rfl
theorem infoS2 : (Tryd.prog.info? 22).map (fun i => (i.zero, i.size, i.bytes)) = some (some (.slice none 0 0), 1, 24) := by kernel_rfl
/-- Is it a name that makes none as yet? -/
def lacks (S : List Bool) (x : Int) : Bool := decide (x < 0) && !S.getD (-1 - x).toNat false
theorem short_asks (x : Int) (S : List Bool) (gs ps n : Nat) (w : World) (hc : w.cell? ⟨ps, 0, none⟩ = some (.slice (some ⟨gs, 0, none⟩) n n)) (hs : BoolsAt w (some ⟨gs, 0, none⟩) S) (hl : S.length = n) (hn5 : n ≤ 5) (hx : -(n : Int) ≤ x) :
    Calls Tryd.prog 24 #[.int .i64 x, .pointer (some ⟨ps, 0, none⟩)] w fun e w' => e = .returned (.bool (lacks S x)) ∧ ∃ m, w' = w.drewN m := by
  by_cases h0 : x < 0
  · obtain ⟨b, o, he, hcs⟩ := hs (-1 - x).toNat (by omega)
    cases he
    rw [Nat.zero_add] at hcs
    have HE := Lib.hid (show lacks S x = !S.getD (-1 - x).toNat false by unfold lacks; rw [decide_eq_true h0]; rfl)
    obtain ⟨y, hy⟩ : ∃ y, y = S.getD (-1 - x).toNat false := ⟨_, rfl⟩
    rw [← hy] at hcs HE
    clear hs hy
    go_enter Tryd.func24, Tryd.ntmps24
    go_wp2_with fail
    go_ret
    exact ⟨by rw [HE.out]; rfl, 0, (drewN_zero w).symm⟩
  · have HE := Lib.hid (show lacks S x = false by unfold lacks; rw [decide_eq_false h0]; rfl)
    clear hs hc
    go_enter Tryd.func24, Tryd.ntmps24
    go_wp2_with fail
    go_ret
    exact ⟨by rw [HE.out]; rfl, 0, (drewN_zero w).symm⟩
theorem entersS (args : Array Value) (w : World) : Sem.run Tryd.prog (callFunc 24 args) w = .ok (.enter 24 args) w := by kernel_rfl

theorem ROff.set {w : World} {q p : Nat} {v : Value} {r : List Int} (hv : ROff w q p [v] [r]) : ∀ {vs : List Value} {rows : List (List Int)} (k : Nat), ROff w q p vs rows → ROff w q p (vs.set k v) (rows.set k r)
  | _, _, _, .nil => .nil
  | _, _, 0, .cons _ _ _ _ _ h => by
    simp only [List.set_cons_zero]
    exact hv.append h
  | _, _, k + 1, .cons h1 h2 h3 h4 h5 h => by
    simp only [List.set_cons_succ]
    exact .cons h1 h2 h3 h4 h5 (ROff.set hv k h)
theorem ROff.get {w : World} {q p : Nat} : ∀ {vs : List Value} {rows : List (List Int)} (k : Nat), ROff w q p vs rows → k < rows.length → ∃ ro rc, vs[k]? = some (.slice ro (rows.getD k []).length rc) ∧ IntsAt .i64 w ro (rows.getD k []) ∧ (rows.getD k []).length ≤ maxLen ∧ (ro = none → (rows.getD k []).length = 0) ∧ (rows.getD k []).length ≤ rc
  | _, _, _, .nil, h => by simp at h
  | _, _, 0, .cons h1 h2 h3 h4 h5 h, _ => ⟨_, _, rfl, h1, h2, h3, h4⟩
  | _, _, k + 1, .cons h1 h2 h3 h4 h5 h, hk => ROff.get k h (by simpa using hk)
/-- The words and flags that are held. -/
structure Sh (W w : World) (gb gs ps n : Nat) (S : List Bool) (B : List (List Int)) (vs : List Value) : Prop where
  best : w.ownsRow W.heap.size 22 1 (.slice (some ⟨gb, 0, none⟩) n n) n vs
  vals : ROff w gb gs vs B
  flags : w.ownsRow W.heap.size 4 1 (.slice (some ⟨gs, 0, none⟩) n n) n (S.map Value.bool)
  cell : w.cell? ⟨ps, 0, none⟩ = some (.slice (some ⟨gs, 0, none⟩) n n)
  ne : gb ≠ gs ∧ ps ≠ gb ∧ ps ≠ gs
  below : Below W.heap.size W w
theorem Sh.keep {W w w' : World} {gb gs ps n : Nat} {S : List Bool} {B : List (List Int)} {vs : List Value} (h : Sh W w gb gs ps n S B vs) (hb : Below w.heap.size w w') : Sh W w' gb gs ps n S B vs :=
  ⟨owns_below h.best hb, h.vals.keep (fun g hg _ _ => hb.block g hg) hb.size (.inl rfl) (.inl rfl), owns_below h.flags hb, (hb.cell (p := ⟨ps, 0, none⟩) (World.block_lt_of_cell? w _ h.cell)).trans h.cell, h.ne, h.below.trans (hb.mono h.below.size)⟩
theorem Sh.word {W w : World} {gb gs ps n : Nat} {S : List Bool} {B : List (List Int)} {vs : List Value} (h : Sh W w gb gs ps n S B vs) (hB : B.length = n) {k : Nat} (hk : k < n) :
    ∃ ro rc, w.cell? ⟨gb, k, none⟩ = some (.slice ro (B.getD k []).length rc) ∧ IntsAt .i64 w ro (B.getD k []) ∧ (B.getD k []).length ≤ maxLen ∧ (ro = none → (B.getD k []).length = 0) ∧ (B.getD k []).length ≤ rc := by
  obtain ⟨ro, rc, h1, h2⟩ := ROff.get k h.vals (by omega)
  exact ⟨ro, rc, by rw [h.best.cellAt k (by have := h.best.1; omega)]; exact h1, h2⟩
theorem Sh.flag {W w : World} {gb gs ps n : Nat} {S : List Bool} {B : List (List Int)} {vs : List Value} (h : Sh W w gb gs ps n S B vs) {k : Nat} (hk : k < n) : w.cell? ⟨gs, k, none⟩ = some (.bool (S.getD k false)) := by
  have hl : S.length = n := by have := h.flags.1; simpa using this
  rw [h.flags.cellAt k (by have := h.flags.1; omega)]
  simp [show k < S.length by omega]
theorem Sh.put {W w : World} {gb gs ps n : Nat} {S : List Bool} {B : List (List Int)} {vs : List Value} {v : Value} {r : List Int} (h : Sh W w gb gs ps n S B vs) (hv : ROff w gb gs [v] [r]) (k : Nat) :
    Sh W ((w.setCell ⟨gb, k, none⟩ v).setCell ⟨gs, k, none⟩ (.bool true)) gb gs ps n (S.set k true) (B.set k r) (vs.set k v) := by
  have hblk : ∀ g, g ≠ gb → g ≠ gs → ((w.setCell ⟨gb, k, none⟩ v).setCell ⟨gs, k, none⟩ (.bool true)).heap[g]? = w.heap[g]? := fun g h1 h2 => by
    rw [heap_setCell_other _ _ _ _ h2, heap_setCell_other _ _ _ _ h1]
  have hsz : ((w.setCell ⟨gb, k, none⟩ v).setCell ⟨gs, k, none⟩ (.bool true)).heap.size = w.heap.size := by simp
  refine ⟨?_, (ROff.set hv k h.vals).keep (fun g _ h1 h2 => hblk g h1 h2) (by omega) (.inl rfl) (.inl rfl), ?_, ?_, h.ne, ?_⟩
  · exact owns_block (h.best.stored k v).1 fun g _ hg => by
      simp only [Value.ownBlock, Option.some.injEq] at hg
      subst hg
      exact heap_setCell_other _ _ _ _ h.ne.1
  · have h1 : (w.setCell ⟨gb, k, none⟩ v).ownsRow W.heap.size 4 1 (.slice (some ⟨gs, 0, none⟩) n n) n (S.map Value.bool) := owns_block h.flags fun g _ hg => by
      simp only [Value.ownBlock, Option.some.injEq] at hg
      subst hg
      exact heap_setCell_other _ _ _ _ (fun e => h.ne.1 e.symm)
    have h2 := (h1.stored k (.bool true)).1
    rw [← List.map_set] at h2
    exact h2
  · exact (World.cell?_of_block (w := w) (hblk ps h.ne.2.1 h.ne.2.2)).trans h.cell
  · exact (h.below.setCell (p := ⟨gb, k, none⟩) (h.best.lt gb rfl).1 _).setCell (p := ⟨gs, k, none⟩) (h.flags.lt gs rfl).1 _
/-- What Short tells. -/
def ShortPost (g : List (List (List Int))) (i : Int) (e : Ending) (w' : World) : Prop :=
  (¬ gok g ∧ e = .returned (.tuple #[.slice none 0 0, .iface 30 (.int .i64 (gfault g))])) ∨
  (gok g ∧ ¬ (0 ≤ i ∧ i < g.length) ∧ e = .returned (.tuple #[.slice none 0 0, .iface 30 (.int .i64 1)])) ∨
  (gok g ∧ ∃ k : Nat, i = k ∧ k < g.length ∧ ∃ S B, Bst g S B ∧ Fixed g S B ∧
    ((S.getD k false = false ∧ e = .returned (.tuple #[.slice none 0 0, .iface 30 (.int .i64 2)])) ∨
     (S.getD k false = true ∧ 1000 < (B.getD k []).length ∧ e = .returned (.tuple #[.slice none 0 0, .iface 30 (.int .i64 4)])) ∨
     (S.getD k false = true ∧ (B.getD k []).length ≤ 1000 ∧ ∃ ro rc, e = .returned (.tuple #[.slice ro (B.getD k []).length rc, .nilIface]) ∧ IntsAt .i64 w' ro (B.getD k []))))
theorem none_word (n k : Nat) : (List.replicate n ([] : List Int)).getD k [] = [] := by
  rw [List.getD, List.getElem?_replicate]
  split <;> rfl
theorem none_flag (n k : Nat) : (List.replicate n false).getD k false = false := by
  rw [List.getD, List.getElem?_replicate]
  split <;> rfl
theorem bst_start (g : List (List (List Int))) : Bst g (List.replicate g.length false) (List.replicate g.length []) := by
  refine ⟨by simp, by simp, fun k _ h => ?_, fun k _ x hx => ?_, fun k _ => ?_⟩
  · rw [none_flag] at h; cases h
  · rw [none_word] at hx; cases hx
  · rw [none_word]; simp
/-- Closed so far. -/
def DoneN (g : List (List (List Int))) (S : List Bool) (B : List (List Int)) (k j : Nat) : Prop :=
  ∀ k' j', (k' < k ∨ (k' = k ∧ j' < j)) → k' < g.length → j' < (g.getD k' []).length → ready S ((g.getD k' []).getD j' []) → S.getD k' false = true ∧ Le (B.getD k' []) (cat B ((g.getD k' []).getD j' []))
structure RndN (g : List (List (List Int))) (S0 S : List Bool) (B0 B : List (List Int)) (ch : Bool) (D : Prop) : Prop where
  bst : Bst g S B
  quiet : ch = false → S = S0 ∧ B = B0 ∧ D
  loud : ch = true → mu S B g.length < mu S0 B0 g.length
theorem DoneN.fixed {g : List (List (List Int))} {S : List Bool} {B : List (List Int)} (h : DoneN g S B g.length 0) : Fixed g S B := fun k hk r hr hrd => by
  obtain ⟨j, hj, rfl⟩ := List.mem_iff_getElem.1 hr
  have e : (g.getD k []).getD j [] = (g.getD k [])[j] := by rw [List.getD, List.getElem?_eq_getElem hj]; rfl
  have := h k j (.inl hk) hk hj (by rw [e]; exact hrd)
  rw [e] at this
  exact this
theorem DoneN.next {g : List (List (List Int))} {S : List Bool} {B : List (List Int)} {k j : Nat} (h : DoneN g S B k j) (hn : ready S ((g.getD k []).getD j []) → S.getD k false = true ∧ Le (B.getD k []) (cat B ((g.getD k []).getD j []))) : DoneN g S B k (j + 1) := fun k' j' hc h1 h2 h3 => by
  by_cases e : k' = k ∧ j' = j
  · obtain ⟨rfl, rfl⟩ := e
    exact hn h3
  · exact h k' j' (by omega) h1 h2 h3
theorem DoneN.name {g : List (List (List Int))} {S : List Bool} {B : List (List Int)} {k j : Nat} (h : DoneN g S B k j) (hj : (g.getD k []).length ≤ j) : DoneN g S B (k + 1) 0 := fun k' j' hc h1 h2 h3 =>
  h k' j' (by
    by_cases e : k' = k
    · subst e; omega
    · omega) h1 h2 h3
theorem any_lacks {S : List Bool} {r : List Int} : r.any (lacks S) = false ↔ ready S r := by
  rw [List.any_eq_false]
  unfold ready lacks
  constructor
  · intro h x hx h0
    have := h x hx
    rw [decide_eq_true h0] at this
    simpa using this
  · intro h x hx
    by_cases h0 : x < 0
    · rw [h x hx h0]; simp
    · rw [decide_eq_false h0]; simp
end Go.Proofs.YtfdjnofkoegbdaaDoor
