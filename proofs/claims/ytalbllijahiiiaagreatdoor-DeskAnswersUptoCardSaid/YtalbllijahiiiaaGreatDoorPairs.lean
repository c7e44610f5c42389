/- Slices of pairs of numbers, read. No conditions. -/
import Derived.Test.YtalbllijahiiiaaGreatDoorInts
import Derived.Deep.SlicePairs
namespace Go.Mine
open Go Go.RowKit
open Go.WideShapes (add_plain)

/-- The slice's places hold these pairs. -/
def PairsAt (w : World) (ao : Option Addr) (es : List (Int × Int)) : Prop :=
  ∀ j, j < es.length → ∃ b o, ao = some ⟨b, o, none⟩ ∧ w.cell? ⟨b, o + j * 2, none⟩ = some (.int .i64 (es.getD j (0, 0)).1) ∧ w.cell? ⟨b, o + j * 2 + 1, none⟩ = some (.int .i64 (es.getD j (0, 0)).2)
theorem PairsAt.below {w w' : World} {ao : Option Addr} {es : List (Int × Int)} (h : PairsAt w ao es) {B : Nat} (hB : w.heap.size ≤ B) (hb : Below B w w') : PairsAt w' ao es := by
  intro j hj
  obtain ⟨b, o, h1, h2, h3⟩ := h j hj
  have := World.block_lt_of_cell? w _ h2
  exact ⟨b, o, h1, (hb.cell (p := ⟨b, o + j * 2, none⟩) (Nat.lt_of_lt_of_le this hB)).trans h2, (hb.cell (p := ⟨b, o + j * 2 + 1, none⟩) (Nat.lt_of_lt_of_le this hB)).trans h3⟩
theorem PairsAt.grown {w w' : World} {ao : Option Addr} {es : List (Int × Int)} {row : Option Nat} (h : PairsAt w ao es) (hg : w.grownBy w' row) (hr : 0 < es.length → ∀ b o s, ao = some ⟨b, o, s⟩ → row ≠ some b) : PairsAt w' ao es := by
  intro j hj
  obtain ⟨b, o, h1, h2, h3⟩ := h j hj
  exact ⟨b, o, h1, hg.cell h2 (fun e => hr (by omega) b o none h1 e.symm), hg.cell h3 (fun e => hr (by omega) b o none h1 e.symm)⟩
theorem grownBy_trans {a b c : World} {row : Option Nat} (h : a.grownBy b row) (k : b.grownBy c row) : a.grownBy c row :=
  ⟨k.os.trans h.os, k.tape.trans h.tape, k.output.trans h.output, Nat.le_trans h.size k.size, fun i hi hne => (k.block i (Nat.lt_of_lt_of_le hi h.size) hne).trans (h.block i hi hne)⟩
theorem PairsAt.far {w : World} {lo : Option Addr} {es : List (Int × Int)} (h : PairsAt w lo es) : 0 < es.length → ∀ b o s, lo = some ⟨b, o, s⟩ → b < w.heap.size := by
  intro hp
  obtain ⟨b, o, rfl, h1, _⟩ := h 0 hp
  intro b' o' s' e
  simp only [Option.some.injEq, Addr.mk.injEq] at e
  obtain ⟨rfl, _, _⟩ := e
  exact World.block_lt_of_cell? w _ h1
theorem PairsAt.nil (w : World) (ao : Option Addr) : PairsAt w ao [] := by intro j hj; simp at hj
/-- Pairs as cells. -/
def two : List (Int × Int) → List Value
  | [] => []
  | e :: es => .int .i64 e.1 :: .int .i64 e.2 :: two es
theorem two_len : ∀ es : List (Int × Int), (two es).length = es.length * 2
  | [] => rfl
  | _ :: es => by simp only [two, List.length_cons, two_len es]; omega
theorem two_append : ∀ es fs : List (Int × Int), two (es ++ fs) = two es ++ two fs
  | [], _ => rfl
  | _ :: es, fs => by simp [two, two_append es fs]
theorem two_one : ∀ es : List (Int × Int), ∀ u ∈ two es, u.oneCell' = true
  | [], u, h => by simp [two] at h
  | e :: es, u, h => by
    simp only [two, List.mem_cons] at h
    rcases h with rfl | rfl | h
    · rfl
    · rfl
    · exact two_one es u h
theorem two_fst : ∀ (es : List (Int × Int)) (j : Nat), j < es.length → (two es)[j * 2]? = some (.int .i64 (es.getD j (0, 0)).1)
  | e :: es, 0, _ => rfl
  | e :: es, j + 1, h => by
    have := two_fst es j (by simpa using h)
    rw [show (j + 1) * 2 = j * 2 + 1 + 1 by omega]
    simpa [two] using this
theorem two_snd : ∀ (es : List (Int × Int)) (j : Nat), j < es.length → (two es)[j * 2 + 1]? = some (.int .i64 (es.getD j (0, 0)).2)
  | e :: es, 0, _ => rfl
  | e :: es, j + 1, h => by
    have := two_snd es j (by simpa using h)
    rw [show (j + 1) * 2 + 1 = j * 2 + 1 + 1 + 1 by omega]
    simpa [two] using this
theorem PairsAt.cells {w : World} {ao : Option Addr} {es : List (Int × Int)} (h : PairsAt w ao es) : ∀ ad, ao = some ad → ∀ j u, (two es)[j]? = some u → w.cell? (ad.add j) = some u := by
  intro ad ha j u hu
  have hj : j < es.length * 2 := by
    rcases Nat.lt_or_ge j (es.length * 2) with h' | h'
    · exact h'
    · rw [List.getElem?_eq_none (by rw [two_len]; exact h')] at hu; cases hu
  obtain ⟨b, o, h1, h2, h3⟩ := h (j / 2) (by omega)
  rw [ha] at h1
  simp only [Option.some.injEq] at h1
  subst h1
  rw [add_plain]
  rcases Nat.mod_two_eq_zero_or_one j with hm | hm
  · have e : j = j / 2 * 2 := by omega
    rw [e, two_fst es _ (by omega)] at hu
    rw [e, h2]; exact hu
  · have e : j = j / 2 * 2 + 1 := by omega
    rw [e, two_snd es _ (by omega)] at hu
    rw [e, ← Nat.add_assoc, h3]; exact hu
theorem PairsAt.of_owns {w : World} {base : Nat} {e : TypeId} {ao : Option Addr} {n cap : Nat} {es : List (Int × Int)} (h : w.ownsRow base e 2 (.slice ao n cap) n (two es)) : PairsAt w ao es := by
  intro j hj
  have hl := h.1
  rw [two_len] at hl
  rcases h.2 with ⟨h1, h2⟩ | ⟨g, cap', cur, h1, _⟩
  · omega
  · simp only [Value.slice.injEq] at h1
    obtain ⟨rfl, _, rfl⟩ := h1
    refine ⟨g, 0, rfl, ?_, ?_⟩
    · rw [Nat.zero_add, h.cellAt _ (by omega), two_fst es j hj]
    · rw [Nat.zero_add, h.cellAt _ (by omega), two_snd es j hj]

/-- A slice of pairs of numbers that came in. -/
theorem pairs_open {H : Type} {P : Program} {enc : TypeId × Value → H} {W : World} {T E : TypeId} {f0 f1 : Field} {fuel : Nat} {ao : Option Addr} {len cap : Nat} {x : DataW H × List MemPlace} (hT : P.underlying T = some (.slice E)) (hE : P.underlying E = some (.struct #[f0, f1]))
    (ce : P.cellsOf E = 2) (o0 : f0.offset = 0) (o1 : f1.offset = 1) (c0 : P.cellsOf f0.type = 1) (c1 : P.cellsOf f1.type = 1) (u0 : P.underlying f0.type = some (.int .i64)) (u1 : P.underlying f1.type = some (.int .i64))
    (h : DataW.trod enc P W 0 (fun _ => true) true fuel T [.slice ao len cap] = some x) : ∃ es : List (Int × Int), es.length = len ∧ PairsAt W ao es ∧ (∀ e ∈ es, (Lit.int .i64 e.1).wf = true ∧ (Lit.int .i64 e.2).wf = true) ∧ len ≤ maxLen ∧ (ao = none → len = 0) ∧ (len = 0 ∨ ∃ elems spare, x.1 = .slice elems spare ∧ elems.length = len) := by
  rcases Go.Deep.open_slice_pairs hT hE ce o0 o1 c0 c1 h with ⟨hcs, _⟩ | ⟨a, l, c, m, n, V0, V1, D0, D1, P0, P1, hcs, _, hl, hm, hmm, hx, hi⟩
  · simp at hcs
    obtain ⟨rfl, rfl, rfl⟩ := hcs
    exact ⟨[], rfl, PairsAt.nil _ _, by simp, Nat.zero_le _, fun _ => rfl, .inl rfl⟩
  · simp at hcs
    obtain ⟨rfl, rfl, rfl⟩ := hcs
    simp at hmm
    subst hmm
    have each : ∀ i, i < len → ∃ p : Int × Int, V0 i = .int .i64 p.1 ∧ V1 i = .int .i64 p.2 ∧ (Lit.int .i64 p.1).wf = true ∧ (Lit.int .i64 p.2).wf = true := by
      intro i hil
      obtain ⟨_, _, h3, h4⟩ := hi i (by omega)
      obtain ⟨a0, e0, _, w0⟩ := DataW.trod_int u0 h3
      obtain ⟨a1, e1, _, w1⟩ := DataW.trod_int u1 h4
      exact ⟨(a0, a1), by simpa using e0, by simpa using e1, w0, w1⟩
    obtain ⟨q, hq⟩ := Go.Deep.choose_lt each
    refine ⟨(List.range len).map q, by simp, ?_, ?_, by omega, (fun h => by cases h), .inr ⟨_, _, by rw [hx], by simp⟩⟩
    · intro j hj
      simp at hj
      obtain ⟨h1, h2, _, _⟩ := hi j (by omega)
      obtain ⟨e0, e1, _, _⟩ := hq j hj
      rw [e0] at h1
      rw [e1] at h2
      obtain ⟨b, o, s⟩ := a
      have h10 := (hi 0 (by omega)).1
      have hs : s = none := by simpa [Addr.add] using World.cell?_spot h10
      subst hs
      exact ⟨b, o, rfl, by simpa [add_plain, hj] using h1, by simpa [add_plain, hj, Nat.add_assoc] using h2⟩
    · intro e he
      simp at he
      obtain ⟨j, hj, rfl⟩ := he
      exact ⟨(hq j hj).2.2.1, (hq j hj).2.2.2⟩
end Go.Mine
