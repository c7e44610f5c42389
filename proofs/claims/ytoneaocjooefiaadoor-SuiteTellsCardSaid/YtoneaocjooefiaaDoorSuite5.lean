/- suite.Least: look. No conditions. -/
import Derived.Test.YtoneaocjooefiaaDoorSuite4
import Derived.Test.YtoneaocjooefiaaDoorSuiteL
import Derived.Test.YtoneaocjooefiaaDoorKeep2
import Derived.Deep.RegionHeld3
import Derived.Deep.CutRange
namespace Go.Proofs.YtoneaocjooefiaaDoor
open Go.RowKit Go.Mine Go.Mine.Suite

/-- The best one so far, as a value. -/
def BestIs (S : Nat) (w : World) (bv : Value) : Option (List Nat) → Prop
  | none => bv = .slice none 0 0
  | some l => ∃ g cap, bv = .slice (some ⟨g, 0, none⟩) l.length cap ∧ w.ownsRow (S + 3) 3 1 bv l.length ((cast l).map (Value.int .i64))
/-- What look finds in memory, and leaves there. -/
structure LOwn (W : World) (ts : List Nat) (ao : Option Addr) (c : Nat) (best : Option (List Nat)) (bv : Value) (w : World) : Prop where
  tests : w.cell? ⟨W.heap.size, 0, none⟩ = some (.slice ao ts.length c)
  bestc : w.cell? ⟨W.heap.size + 1, 0, none⟩ = some bv
  frz : w.frozen? ⟨W.heap.size + 1, 0, none⟩ = false
  look : w.cell? ⟨W.heap.size + 1 + 1, 0, none⟩ = some (.func (.func 23) #[] #[.pointer (some ⟨W.heap.size + 1, 0, none⟩), .pointer (some ⟨W.heap.size, 0, none⟩), .pointer (some ⟨W.heap.size + 1 + 1, 0, none⟩)])
  size : W.heap.size + 3 ≤ w.heap.size
  below : Below W.heap.size W w
  is : BestIs W.heap.size w bv best
/-- What was there is as it was, but the best one's cell and what lies behind what is taken. -/
structure Fr (B : Nat) (tv : Value) (w w' : World) : Prop where
  os : w'.os = w.os
  tape : w'.tape = w.tape
  output : w'.output = w.output
  size : w.heap.size ≤ w'.heap.size
  block : ∀ j, j < w.heap.size → j ≠ B + 1 → tv.ownBlock ≠ some j → w'.heap[j]? = w.heap[j]?
theorem Fr.refl (B : Nat) (tv : Value) (w : World) : Fr B tv w w := ⟨rfl, rfl, rfl, Nat.le_refl _, fun _ _ _ _ => rfl⟩
theorem Fr.trans {B : Nat} {tv : Value} {a b c : World} (h : Fr B tv a b) (k : Fr B tv b c) : Fr B tv a c :=
  ⟨k.os.trans h.os, k.tape.trans h.tape, k.output.trans h.output, Nat.le_trans h.size k.size, fun j hj h1 h2 => (k.block j (Nat.lt_of_lt_of_le hj h.size) h1 h2).trans (h.block j hj h1 h2)⟩
/-- What look tells: the best one, what was taken, the rest. -/
def LookPost (W : World) (ts : List Nat) (ao : Option Addr) (c : Nat) (r : Option (List Nat)) (bv tv : Value) (tk : List Nat) (w w' : World) : Prop :=
  ∃ bv', LOwn W ts ao c r bv' w' ∧ w'.ownsRow (W.heap.size + 3) 3 1 tv tk.length ((cast tk).map (Value.int .i64)) ∧ Fr W.heap.size tv w w' ∧ (bv' = bv ∨ ∀ g, bv'.ownBlock = some g → w.heap.size ≤ g)
theorem LookPost.refl {W : World} {ts : List Nat} {ao : Option Addr} {c : Nat} {r : Option (List Nat)} {bv tv : Value} {tk : List Nat} {w : World} (h : LOwn W ts ao c r bv w) (ht : w.ownsRow (W.heap.size + 3) 3 1 tv tk.length ((cast tk).map (Value.int .i64))) : LookPost W ts ao c r bv tv tk w w :=
  ⟨bv, h, ht, Fr.refl _ _ _, .inl rfl⟩
theorem lookF_eq {ts : List Nat} {f k o : Nat} {taken : List Nat} {best : Option (List Nat)} (hk : ts.length - k ≤ f) (h : o ≠ 0) (hr : room taken best = true) : lookF ts f k o taken best = foldF ts (f - 1) k o taken best (ts.length - k) := by
  cases f with
  | zero => rw [lookF_last h (by omega), show ts.length - k = 0 by omega]; rfl
  | succ f => exact lookF_open h hr
/-- One call of the loop: what was taken is there again. -/
theorem look_step {W : World} {ts : List Nat} {ao : Option Addr} {c i : Nat} {r r' : Option (List Nat)} {bv tv : Value} {tk : List Nat} {wr w1 w7 w9 : World} {g cap : Nat} (h : LOwn W ts ao c r bv wr) (ht : wr.ownsRow (W.heap.size + 3) 3 1 tv tk.length ((cast tk).map (Value.int .i64)))
    (hap : Apart tv bv) (hw1 : w1.heap = wr.heap.push (.cells #[.int .i64 i] 3 (0, 0))) (hos : w1.os = wr.os ∧ w1.tape = wr.tape ∧ w1.output = wr.output)
    (h7 : w7.ownsRow (W.heap.size + 3) 3 1 (.slice (some ⟨g, 0, none⟩) (tk.length + 1) cap) (tk.length + 1) ((cast (tk ++ [i])).map (Value.int .i64)))
    (h7t : w7.ownsRow (W.heap.size + 3) 3 1 tv tk.length ((cast tk).map (Value.int .i64))) (hg7 : w1.grownBy w7 tv.ownBlock) (hat : tv.ownBlock = some g ∨ g = wr.heap.size + 1) (_hgl : g < w7.heap.size) :
    LOwn W ts ao c r bv w7 ∧ Apart (.slice (some ⟨g, 0, none⟩) (tk.length + 1) cap) bv ∧
    (LookPost W ts ao c r' bv (.slice (some ⟨g, 0, none⟩) (tk.length + 1) cap) (tk ++ [i]) w7 w9 → ∃ bv', LOwn W ts ao c r' bv' w9 ∧ w9.ownsRow (W.heap.size + 3) 3 1 tv tk.length ((cast tk).map (Value.int .i64)) ∧ Fr W.heap.size tv wr w9 ∧ (bv' = bv ∨ ∀ g, bv'.ownBlock = some g → wr.heap.size ≤ g)) := by
  have hs1 : w1.heap.size = wr.heap.size + 1 := by rw [hw1]; simp
  have hs7 := hg7.size
  have hb1 : ∀ j, j < wr.heap.size → w1.heap[j]? = wr.heap[j]? := fun j hj => by rw [hw1, Array.getElem?_push_lt hj, Array.getElem?_eq_getElem hj]
  have hrow : ∀ j, tv.ownBlock = some j → W.heap.size + 3 ≤ j ∧ j < wr.heap.size := fun j hj => ht.lt j hj
  have hb7 : ∀ j, j < wr.heap.size → tv.ownBlock ≠ some j → w7.heap[j]? = wr.heap[j]? := fun j hj hne => (hg7.block j (by omega) (fun e => hne e.symm)).trans (hb1 j hj)
  have hlow : ∀ j, j < W.heap.size + 3 → w7.heap[j]? = wr.heap[j]? := fun j hj => hb7 j (by have := h.size; omega) (fun e => by have := hrow j e; omega)
  have hbvlt : ∀ j, bv.ownBlock = some j → j < wr.heap.size := fun j hj => by
    cases r with
    | none => have := h.is; simp only [BestIs] at this; subst this; cases hj
    | some l => obtain ⟨g0, c0, e0, h0⟩ := h.is; exact (h0.lt j hj).2
  have hown7 : LOwn W ts ao c r bv w7 := by
    refine ⟨(World.cell?_of_block (w := wr) (hlow _ (by dsimp; omega))).trans h.tests, (World.cell?_of_block (w := wr) (hlow _ (by dsimp; omega))).trans h.bestc, (World.frozen?_of_block (w := wr) (hlow _ (by dsimp; omega))).trans h.frz, (World.cell?_of_block (w := wr) (hlow _ (by dsimp; omega))).trans h.look, by have := h.size; omega, ?_, ?_⟩
    · have hbz := h.below
      exact ⟨hg7.os.trans (hos.1.trans hbz.os), hg7.tape.trans (hos.2.1.trans hbz.tape), hg7.output.trans (hos.2.2.trans hbz.output), by have := hbz.size; omega, fun j hj => (hlow j (by omega)).trans (hbz.block j hj)⟩
    · cases r with
      | none => exact h.is
      | some l =>
        obtain ⟨g0, c0, e0, h0⟩ := h.is
        exact ⟨g0, c0, e0, owns_block h0 fun j _ hj => hb7 j (hbvlt j hj) (fun e => hap j e hj)⟩
  have hap7 : Apart (.slice (some ⟨g, 0, none⟩) (tk.length + 1) cap) bv := by
    intro j hj hbj
    simp only [Value.ownBlock, Option.some.injEq] at hj
    subst hj
    rcases hat with e | e
    · exact hap _ e hbj
    · have := hbvlt _ hbj; omega
  refine ⟨hown7, hap7, ?_⟩
  rintro ⟨bv', k1, k2, k3, k4⟩
  refine ⟨bv', k1, ?_, ⟨k3.os.trans (hg7.os.trans hos.1), k3.tape.trans (hg7.tape.trans hos.2.1), k3.output.trans (hg7.output.trans hos.2.2), by have := k3.size; omega, fun j hj h1 h2 => ?_⟩, ?_⟩
  · rcases owns_shape ht with ⟨tao, tc, rfl⟩
    cases tao with
    | none =>
      have : tk.length = 0 := by
        rcases ht.2 with ⟨_, h⟩ | ⟨_, _, _, h, _⟩
        · exact h
        · cases h
      have htk : tk = [] := List.eq_nil_of_length_eq_zero this
      subst htk
      rcases ht.2 with ⟨e, _⟩ | ⟨_, _, _, h, _⟩
      · rw [e]; exact World.ownsRow_nil _ _ _ _
      · cases h
    | some ad =>
      rcases ht.2 with ⟨e, _⟩ | ⟨g0, c0, cur, e, hr⟩
      · cases e
      · simp only [Value.slice.injEq, Option.some.injEq, true_and] at e
        obtain ⟨rfl, rfl⟩ := e
        have hcast : (cast (tk ++ [i])).map (Value.int .i64) = (cast tk).map (Value.int .i64) ++ [.int .i64 i] := by simp [cast]
        rw [hcast] at h7
        have hl : (tk ++ [i]).length = tk.length + 1 := by simp
        rw [hl, hcast] at k2
        by_cases eg : g0 = g
        · subst eg
          exact owns_back h7t h7 k2
        · exact owns_block h7t fun j _ hj => by
            simp only [Value.ownBlock, Option.some.injEq] at hj
            subst hj
            have := hrow g0 rfl
            exact k3.block g0 (by omega) (by omega) (by simp [Value.ownBlock, Ne.symm eg])
  · refine (k3.block j (by omega) h1 ?_).trans (hb7 j hj h2)
    simp only [Value.ownBlock, ne_eq, Option.some.injEq]
    intro e
    subst e
    rcases hat with e | e
    · exact h2 e
    · omega
  · rcases k4 with e | k4
    · exact .inl e
    · exact .inr fun g' hg' => by have := k4 g' hg'; omega
/-- What the best one is as a value; what is asked of it. -/
theorem best_shape {S : Nat} {w : World} {bv : Value} {best : Option (List Nat)} (tk : List Nat) (h : BestIs S w bv best) : ∃ ba bn bc, bv = .slice ba bn bc ∧ (room tk best = true → ba.isNone = true ∨ (ba.isNone = false ∧ tk.length + 1 < bn)) ∧ (room tk best = false → ba.isNone = false ∧ ¬ tk.length + 1 < bn) ∧
    (shorter tk best = true → ba.isNone = true ∨ (ba.isNone = false ∧ tk.length < bn)) ∧ (shorter tk best = false → ba.isNone = false ∧ ¬ tk.length < bn) := by
  cases best with
  | none =>
    refine ⟨none, 0, 0, h, fun _ => .inl rfl, fun h => ?_, fun _ => .inl rfl, fun h => ?_⟩
    · simp [room] at h
    · simp [shorter] at h
  | some b =>
    obtain ⟨g, cap, rfl, _⟩ := h
    exact ⟨_, _, _, rfl, fun h => .inr ⟨rfl, by simpa [room] using h⟩, fun h => ⟨rfl, by simpa [room] using h⟩, fun h => .inr ⟨rfl, by simpa [shorter] using h⟩, fun h => ⟨rfl, by simpa [shorter] using h⟩⟩
/-- A better one is kept. -/
theorem look_store {W : World} {ts : List Nat} {ao : Option Addr} {c : Nat} {best : Option (List Nat)} {bv tv : Value} {tk : List Nat} {w w' : World} {g cap : Nat} (h : LOwn W ts ao c best bv w) (ht : w.ownsRow (W.heap.size + 3) 3 1 tv tk.length ((cast tk).map (Value.int .i64)))
    (hg : (w.alloc (.cells #[] 3)).grownBy w' (some w.heap.size)) (ho : w'.ownsRow (W.heap.size + 3) 3 1 (.slice (some ⟨g, 0, none⟩) tk.length cap) tk.length ((cast tk).map (Value.int .i64))) (hat : g = w.heap.size ∨ g = w.heap.size + 1) :
    w'.cell? ⟨W.heap.size + 1, 0, none⟩ = some bv ∧ w'.frozen? ⟨W.heap.size + 1, 0, none⟩ = false ∧ LookPost W ts ao c (some tk) bv tv tk w (w'.setCell ⟨W.heap.size + 1, 0, none⟩ (.slice (some ⟨g, 0, none⟩) tk.length cap)) := by
  have hs := h.size
  have hs' := hg.size
  simp at hs'
  have hblk : ∀ j, j < w.heap.size → w'.heap[j]? = w.heap[j]? := fun j hj => (hg.block j (by simp; omega) (by simp; omega)).trans (Below.heap_alloc _ _ _ hj)
  have c1 : w'.cell? ⟨W.heap.size + 1, 0, none⟩ = some bv := (World.cell?_of_block (w := w) (hblk _ (by dsimp; omega))).trans h.bestc
  have f1 : w'.frozen? ⟨W.heap.size + 1, 0, none⟩ = false := (World.frozen?_of_block (w := w) (hblk _ (by dsimp; omega))).trans h.frz
  have hset : ∀ j, j ≠ W.heap.size + 1 → (w'.setCell ⟨W.heap.size + 1, 0, none⟩ (.slice (some ⟨g, 0, none⟩) tk.length cap)).heap[j]? = w'.heap[j]? := fun j hj => Below.heap_setCell _ _ _ _ hj
  have hsb := (Below.refl 0 w').setCell (p := ⟨W.heap.size + 1, 0, none⟩) (Nat.zero_le _) (.slice (some ⟨g, 0, none⟩) tk.length cap)
  refine ⟨c1, f1, .slice (some ⟨g, 0, none⟩) tk.length cap, ⟨?_, World.cell?_setCell_same _ _ _ c1, by simpa using f1, ?_, by simp; omega, ?_, ?_⟩, ?_, ⟨hsb.os.trans hg.os, hsb.tape.trans hg.tape, hsb.output.trans hg.output, by simp; omega, fun j hj h1 _ => (hset j h1).trans (hblk j hj)⟩, .inr ?_⟩
  · exact (World.cell?_of_block (w := w') (hset _ (by dsimp; omega))).trans ((World.cell?_of_block (w := w) (hblk _ (by dsimp; omega))).trans h.tests)
  · exact (World.cell?_of_block (w := w') (hset _ (by dsimp; omega))).trans ((World.cell?_of_block (w := w) (hblk _ (by dsimp; omega))).trans h.look)
  · have hb := h.below
    exact (⟨hsb.os.trans (hg.os.trans hb.os), hsb.tape.trans (hg.tape.trans hb.tape), hsb.output.trans (hg.output.trans hb.output), by have := hb.size; simp; omega, fun j hj => (hset j (by omega)).trans ((hblk j (by omega)).trans (hb.block j hj))⟩ : Below W.heap.size W _)
  · exact ⟨g, cap, rfl, owns_block ho fun j hj _ => hset j (by omega)⟩
  · exact owns_block ht fun j hj hv => (hset j (by omega)).trans (hblk j (ht.lt j hv).2)
  · intro g' hg'
    simp only [Value.ownBlock, Option.some.injEq] at hg'
    subst hg'
    rcases hat with e | e <;> omega
end Go.Proofs.YtoneaocjooefiaaDoor
