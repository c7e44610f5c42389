/- Slices of structs of a slice of numbers and a number, read. No conditions. -/
import Derived.Test.YtpmfpegjkfnnkaaInts
import Derived.Deep.SlicePairs
namespace Go.Mine
open Go Go.RowKit
open Go.WideShapes (add_plain)

/-- One rule: its numbers, its number; where the numbers lie. -/
structure Rl where
  sa : Option Addr
  cap : Nat
  when : List Int
  to : Int
instance : Inhabited Rl := ⟨⟨none, 0, [], 0⟩⟩
/-- The slice's places hold these. -/
def RulesAt (w : World) (ao : Option Addr) (rs : List Rl) : Prop :=
  ∀ j, j < rs.length → ∃ b o, ao = some ⟨b, o, none⟩ ∧ w.cell? ⟨b, o + j * 2, none⟩ = some (.slice (rs.getD j default).sa (rs.getD j default).when.length (rs.getD j default).cap) ∧ w.cell? ⟨b, o + j * 2 + 1, none⟩ = some (.int .i64 (rs.getD j default).to) ∧
    IntsAt .i64 w (rs.getD j default).sa (rs.getD j default).when ∧ (rs.getD j default).when.length ≤ maxLen
theorem RulesAt.below {w w' : World} {ao : Option Addr} {rs : List Rl} (h : RulesAt w ao rs) {B : Nat} (hB : w.heap.size ≤ B) (hb : Below B w w') : RulesAt w' ao rs := by
  intro j hj
  obtain ⟨b, o, h1, h2, h3, h4, h5⟩ := h j hj
  have := World.block_lt_of_cell? w _ h2
  exact ⟨b, o, h1, (hb.cell (p := ⟨b, o + j * 2, none⟩) (Nat.lt_of_lt_of_le this hB)).trans h2, (hb.cell (p := ⟨b, o + j * 2 + 1, none⟩) (Nat.lt_of_lt_of_le this hB)).trans h3, h4.below hB hb, h5⟩
theorem RulesAt.nil (w : World) (ao : Option Addr) : RulesAt w ao [] := by intro j hj; simp at hj

/-- A slice of rules that came in. -/
theorem rules_open {H : Type} {P : Program} {enc : TypeId × Value → H} {W : World} {T E S : TypeId} {f0 f1 : Field} {fuel : Nat} {ao : Option Addr} {len cap : Nat} {x : DataW H × List MemPlace} (hT : P.underlying T = some (.slice E)) (hE : P.underlying E = some (.struct #[f0, f1]))
    (ce : P.cellsOf E = 2) (o0 : f0.offset = 0) (o1 : f1.offset = 1) (c0 : P.cellsOf f0.type = 1) (c1 : P.cellsOf f1.type = 1) (u0 : P.underlying f0.type = some (.slice S)) (us : P.underlying S = some (.int .i64)) (cs : P.cellsOf S = 1) (u1 : P.underlying f1.type = some (.int .i64))
    (h : DataW.trod enc P W 0 (fun _ => true) true fuel T [.slice ao len cap] = some x) : ∃ rs : List Rl, rs.length = len ∧ RulesAt W ao rs ∧ (∀ r ∈ rs, (Lit.int .i64 r.to).wf = true ∧ ∀ z ∈ r.when, (Lit.int .i64 z).wf = true) ∧ len ≤ maxLen ∧ (ao = none → len = 0) ∧ len ≤ cap := by
  rcases Go.Deep.open_slice_pairs hT hE ce o0 o1 c0 c1 h with ⟨hcs, _⟩ | ⟨a, l, c, m, n, V0, V1, D0, D1, P0, P1, hcs, _, hl, hm, hmm, hx, hi⟩
  · simp at hcs
    obtain ⟨rfl, rfl, rfl⟩ := hcs
    exact ⟨[], rfl, RulesAt.nil _ _, by simp, Nat.zero_le _, fun _ => rfl, Nat.le_refl _⟩
  · simp at hcs
    obtain ⟨rfl, rfl, rfl⟩ := hcs
    simp at hmm
    subst hmm
    have each : ∀ i, i < len → ∃ r : Rl, V0 i = .slice r.sa r.when.length r.cap ∧ V1 i = .int .i64 r.to ∧ IntsAt .i64 W r.sa r.when ∧ r.when.length ≤ maxLen ∧ (Lit.int .i64 r.to).wf = true ∧ ∀ z ∈ r.when, (Lit.int .i64 z).wf = true := by
      intro i hil
      obtain ⟨_, _, h3, h4⟩ := hi i (by omega)
      obtain ⟨a1, e1, _, w1⟩ := DataW.trod_int u1 h4
      have hv0 : ∃ sa ln sc, V0 i = .slice sa ln sc := by
        rcases Go.ChangeShapes.open_ints u0 us cs h3 with ⟨hc, _⟩ | ⟨a', l', c', zs, hc, _⟩
        · exact ⟨_, _, _, by simpa using hc⟩
        · exact ⟨_, _, _, by simpa using hc⟩
      obtain ⟨sa, ln, sc, hv0⟩ := hv0
      rw [hv0] at h3
      obtain ⟨xs, hl2, hx2, hw2, hm2⟩ := ints_open u0 us cs h3
      subst hl2
      exact ⟨⟨sa, sc, xs, a1⟩, hv0, by simpa using e1, hx2, hm2, w1, hw2⟩
    obtain ⟨q, hq⟩ := Go.Deep.choose_lt each
    refine ⟨(List.range len).map q, by simp, ?_, ?_, by omega, (fun h => by cases h), hl⟩
    · intro j hj
      simp only [List.length_map, List.length_range] at hj
      obtain ⟨h1, h2, _, _⟩ := hi j (by omega)
      obtain ⟨e0, e1, e2, e3, _, _⟩ := hq j hj
      rw [e0] at h1
      rw [e1] at h2
      obtain ⟨b, o, s⟩ := a
      have h10 := (hi 0 (by omega)).1
      have hs : s = none := by simpa [Addr.add] using World.cell?_spot h10
      subst hs
      have hg : ((List.range len).map q).getD j default = q j := by simp [hj]
      rw [hg]
      exact ⟨b, o, rfl, by simpa [add_plain] using h1, by simpa [add_plain, Nat.add_assoc] using h2, e2, e3⟩
    · intro r hr
      simp only [List.mem_map, List.mem_range] at hr
      obtain ⟨j, hj, rfl⟩ := hr
      exact ⟨(hq j hj).2.2.2.2.1, (hq j hj).2.2.2.2.2⟩
end Go.Mine
