/- Slices of slices of numbers, and slices of those: read. No conditions. -/
import Derived.Test.YtebkgkcfcenkgaaDoorInts
import Derived.Deep.Slices
namespace Go.Mine
open Go Go.RowKit
open Go.WideShapes (add_plain)

/-- The slice's places hold these slices of numbers. -/
def RowsAt (w : World) (ao : Option Addr) (rows : List (List Int)) : Prop :=
  ∀ j, j < rows.length → ∃ b o ro rc, ao = some ⟨b, o, none⟩ ∧ w.cell? ⟨b, o + j, none⟩ = some (.slice ro (rows.getD j []).length rc) ∧ IntsAt .i64 w ro (rows.getD j []) ∧ (rows.getD j []).length ≤ maxLen ∧ (ro = none → (rows.getD j []).length = 0) ∧ (rows.getD j []).length ≤ rc
/-- .. these slices of slices. -/
def GridAt (w : World) (ao : Option Addr) (g : List (List (List Int))) : Prop :=
  ∀ j, j < g.length → ∃ b o ro rc, ao = some ⟨b, o, none⟩ ∧ w.cell? ⟨b, o + j, none⟩ = some (.slice ro (g.getD j []).length rc) ∧ RowsAt w ro (g.getD j []) ∧ (g.getD j []).length ≤ maxLen ∧ (ro = none → (g.getD j []).length = 0) ∧ (g.getD j []).length ≤ rc
theorem RowsAt.nil (w : World) (ao : Option Addr) : RowsAt w ao [] := by intro j hj; simp at hj
theorem GridAt.nil (w : World) (ao : Option Addr) : GridAt w ao [] := by intro j hj; simp at hj
theorem RowsAt.below {w w' : World} {ao : Option Addr} {rows : List (List Int)} (h : RowsAt w ao rows) {B : Nat} (hB : w.heap.size ≤ B) (hb : Below B w w') : RowsAt w' ao rows := by
  intro j hj
  obtain ⟨b, o, ro, rc, h1, h2, h3, h4⟩ := h j hj
  exact ⟨b, o, ro, rc, h1, (hb.cell (Nat.lt_of_lt_of_le (World.block_lt_of_cell? w _ h2) hB)).trans h2, h3.below hB hb, h4⟩
theorem GridAt.below {w w' : World} {ao : Option Addr} {g : List (List (List Int))} (h : GridAt w ao g) {B : Nat} (hB : w.heap.size ≤ B) (hb : Below B w w') : GridAt w' ao g := by
  intro j hj
  obtain ⟨b, o, ro, rc, h1, h2, h3, h4⟩ := h j hj
  exact ⟨b, o, ro, rc, h1, (hb.cell (Nat.lt_of_lt_of_le (World.block_lt_of_cell? w _ h2) hB)).trans h2, h3.below hB hb, h4⟩
theorem RowsAt.drewN {w : World} {ao : Option Addr} {rows : List (List Int)} (h : RowsAt w ao rows) (n : Nat) : RowsAt (w.drewN n) ao rows := h
theorem GridAt.drewN {w : World} {ao : Option Addr} {g : List (List (List Int))} (h : GridAt w ao g) (n : Nat) : GridAt (w.drewN n) ao g := h

/-- A row's cell and what it holds, in any world where the old blocks stand. -/
theorem GridAt.get {W : World} {ao : Option Addr} {g : List (List (List Int))} (h : GridAt W ao g) {j : Nat} (hj : j < g.length) : ∃ b o ro rc, ao = some ⟨b, o, none⟩ ∧ (g.getD j []).length ≤ maxLen ∧ (ro = none → (g.getD j []).length = 0) ∧ (g.getD j []).length ≤ rc ∧
    RowsAt W ro (g.getD j []) ∧ ∀ w, Below W.heap.size W w → w.cell? ⟨b, o + j, none⟩ = some (.slice ro (g.getD j []).length rc) := by
  obtain ⟨b, o, ro, rc, h1, h2, h3, h4, h5, h6⟩ := h j hj
  exact ⟨b, o, ro, rc, h1, h4, h5, h6, h3, fun w hb => (hb.cell (p := ⟨b, o + j, none⟩) (World.block_lt_of_cell? W _ h2)).trans h2⟩
theorem RowsAt.get {W : World} {ao : Option Addr} {rows : List (List Int)} (h : RowsAt W ao rows) {j : Nat} (hj : j < rows.length) : ∃ b o ro rc, ao = some ⟨b, o, none⟩ ∧ (rows.getD j []).length ≤ maxLen ∧ (ro = none → (rows.getD j []).length = 0) ∧ (rows.getD j []).length ≤ rc ∧
    IntsAt .i64 W ro (rows.getD j []) ∧ ∀ w, Below W.heap.size W w → w.cell? ⟨b, o + j, none⟩ = some (.slice ro (rows.getD j []).length rc) := by
  obtain ⟨b, o, ro, rc, h1, h2, h3, h4, h5, h6⟩ := h j hj
  exact ⟨b, o, ro, rc, h1, h4, h5, h6, h3, fun w hb => (hb.cell (p := ⟨b, o + j, none⟩) (World.block_lt_of_cell? W _ h2)).trans h2⟩
/-- A slice that came in, of things that are slices: each is read by 'R'. -/
theorem slices_open {α : Type} [Inhabited α] {H : Type} {P : Program} {enc : TypeId × Value → H} {W : World} {T E S : TypeId} {fuel : Nat} {ao : Option Addr} {len cap : Nat} {x : DataW H × List MemPlace} (hT : P.underlying T = some (.slice E)) (hE : P.underlying E = some (.slice S)) (hc : P.cellsOf E = 1)
    (R : Option Addr → Nat → Nat → α → Prop)
    (hR : ∀ (f : Nat) (ro : Option Addr) (rl rc : Nat) (y : DataW H × List MemPlace), DataW.trod enc P W 0 (fun _ => true) true f E [.slice ro rl rc] = some y → ∃ a, R ro rl rc a)
    (h : DataW.trod enc P W 0 (fun _ => true) true fuel T [.slice ao len cap] = some x) :
    ∃ f : Nat → α, (∀ j, j < len → ∃ b o ro rl rc, ao = some ⟨b, o, none⟩ ∧ W.cell? ⟨b, o + j, none⟩ = some (.slice ro rl rc) ∧ R ro rl rc (f j)) ∧ len ≤ maxLen ∧ (ao = none → len = 0) ∧ len ≤ cap := by
  rcases Go.Deep.open_slice1 hT hc h with ⟨hcs, _⟩ | ⟨a, l, c, m, n, V, D, Pl, hcs, _, hl, hm, hmm, hx, hcell⟩
  · simp at hcs
    obtain ⟨rfl, rfl, rfl⟩ := hcs
    exact ⟨fun _ => default, fun j hj => by omega, Nat.zero_le _, fun _ => rfl, Nat.le_refl _⟩
  · simp at hcs
    obtain ⟨rfl, rfl, rfl⟩ := hcs
    simp at hmm
    subst hmm
    have each : ∀ i, i < len → ∃ q : α, ∃ b o ro rl rc, (some a : Option Addr) = some ⟨b, o, none⟩ ∧ W.cell? ⟨b, o + i, none⟩ = some (.slice ro rl rc) ∧ R ro rl rc q := by
      intro i hi
      obtain ⟨h1, h2⟩ := hcell i (by omega)
      have h10 := (hcell 0 (by omega)).1
      obtain ⟨b, o, s⟩ := a
      have hs : s = none := by simpa [Addr.add] using World.cell?_spot h10
      subst hs
      have hv : ∃ ro rl rc, V i = .slice ro rl rc := by
        rcases DataW.trod_slice hE h2 with ⟨h3, _⟩ | ⟨a', l', c', _, _, _, _, h3, _⟩
        · exact ⟨_, _, _, by simpa using h3⟩
        · exact ⟨_, _, _, by simpa using h3⟩
      obtain ⟨ro, rl, rc, hv⟩ := hv
      rw [hv] at h1 h2
      obtain ⟨q, hq⟩ := hR _ _ _ _ _ h2
      exact ⟨q, b, o, ro, rl, rc, rfl, by simpa [add_plain] using h1, hq⟩
    obtain ⟨f, hf⟩ := Go.Deep.choose_lt each
    exact ⟨f, hf, by omega, (fun h => by cases h), hl⟩

theorem rows_open {H : Type} {P : Program} {enc : TypeId × Value → H} {W : World} {T E I : TypeId} {fuel : Nat} {ao : Option Addr} {len cap : Nat} {x : DataW H × List MemPlace} (hT : P.underlying T = some (.slice E)) (hE : P.underlying E = some (.slice I)) (hI : P.underlying I = some (.int .i64)) (hc : P.cellsOf E = 1) (hci : P.cellsOf I = 1)
    (h : DataW.trod enc P W 0 (fun _ => true) true fuel T [.slice ao len cap] = some x) :
    ∃ rows : List (List Int), rows.length = len ∧ RowsAt W ao rows ∧ (∀ r ∈ rows, ∀ z ∈ r, (Lit.int .i64 z).wf = true) ∧ len ≤ maxLen ∧ (ao = none → len = 0) ∧ len ≤ cap := by
  obtain ⟨f, h1, h2, h3, h4⟩ := slices_open (α := List Int) hT hE hc (fun ro rl rc r => r.length = rl ∧ IntsAt .i64 W ro r ∧ (∀ z ∈ r, (Lit.int .i64 z).wf = true) ∧ rl ≤ maxLen ∧ (ro = none → rl = 0) ∧ rl ≤ rc) (fun _ ro rl rc y hy => ints_open2 hE hI hci hy) h
  refine ⟨(List.range len).map f, by simp, fun j hj => ?_, fun r hr => ?_, h2, h3, h4⟩
  · simp only [List.length_map, List.length_range] at hj
    obtain ⟨b, o, ro, rl, rc, e1, e2, e3, e4, _, e5, e6, e7⟩ := h1 j hj
    have hg : ((List.range len).map f).getD j [] = f j := by simp [hj]
    rw [hg]
    subst e3
    exact ⟨b, o, ro, rc, e1, e2, e4, e5, e6, e7⟩
  · simp only [List.mem_map, List.mem_range] at hr
    obtain ⟨j, hj, rfl⟩ := hr
    obtain ⟨b, o, ro, rl, rc, _, _, _, _, h, _⟩ := h1 j hj
    exact h
theorem grid_open {H : Type} {P : Program} {enc : TypeId × Value → H} {W : World} {T E I J : TypeId} {fuel : Nat} {ao : Option Addr} {len cap : Nat} {x : DataW H × List MemPlace} (hT : P.underlying T = some (.slice E)) (hE : P.underlying E = some (.slice I)) (hI : P.underlying I = some (.slice J)) (hJ : P.underlying J = some (.int .i64)) (hc : P.cellsOf E = 1) (hci : P.cellsOf I = 1) (hcj : P.cellsOf J = 1)
    (h : DataW.trod enc P W 0 (fun _ => true) true fuel T [.slice ao len cap] = some x) :
    ∃ g : List (List (List Int)), g.length = len ∧ GridAt W ao g ∧ (∀ rs ∈ g, ∀ r ∈ rs, ∀ z ∈ r, (Lit.int .i64 z).wf = true) ∧ len ≤ maxLen ∧ (ao = none → len = 0) ∧ len ≤ cap := by
  obtain ⟨f, h1, h2, h3, h4⟩ := slices_open (α := List (List Int)) hT hE hc (fun ro rl rc r => r.length = rl ∧ RowsAt W ro r ∧ (∀ s ∈ r, ∀ z ∈ s, (Lit.int .i64 z).wf = true) ∧ rl ≤ maxLen ∧ (ro = none → rl = 0) ∧ rl ≤ rc) (fun _ ro rl rc y hy => rows_open hE hI hJ hci hcj hy) h
  refine ⟨(List.range len).map f, by simp, fun j hj => ?_, fun r hr => ?_, h2, h3, h4⟩
  · simp only [List.length_map, List.length_range] at hj
    obtain ⟨b, o, ro, rl, rc, e1, e2, e3, e4, _, e5, e6, e7⟩ := h1 j hj
    have hg : ((List.range len).map f).getD j [] = f j := by simp [hj]
    rw [hg]
    subst e3
    exact ⟨b, o, ro, rc, e1, e2, e4, e5, e6, e7⟩
  · simp only [List.mem_map, List.mem_range] at hr
    obtain ⟨j, hj, rfl⟩ := hr
    obtain ⟨b, o, ro, rl, rc, _, _, _, _, h, _⟩ := h1 j hj
    exact h
end Go.Mine
