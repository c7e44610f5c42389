/- Slices of numbers, read. No conditions. -/
import Derived.Test.YtalbllijahiiiaaGreatDoorLib
import Derived.ChangeSlices
import Derived.OpenShut
import Derived.WalkSmall
namespace Go.Mine
open Go Go.RowKit Go.WideShapes Go.ChangeShapes

/-- The slice's places hold these numbers. -/
def IntsAt (k : IntKind) (w : World) (ao : Option Addr) (xs : List Int) : Prop :=
  ∀ j, j < xs.length → ∃ b o, ao = some ⟨b, o, none⟩ ∧ w.cell? ⟨b, o + j, none⟩ = some (.int k (xs.getD j 0))

theorem IntsAt.nil (k : IntKind) (w : World) (ao : Option Addr) : IntsAt k w ao [] := by intro j hj; simp at hj
theorem IntsAt.below {k : IntKind} {w w' : World} {ao : Option Addr} {xs : List Int} (h : IntsAt k w ao xs) {B : Nat} (hB : w.heap.size ≤ B) (hb : Below B w w') : IntsAt k w' ao xs := by
  intro j hj
  obtain ⟨b, o, h1, h2⟩ := h j hj
  exact ⟨b, o, h1, (hb.cell (Nat.lt_of_lt_of_le (World.block_lt_of_cell? w _ h2) hB)).trans h2⟩
theorem IntsAt.drewN {k : IntKind} {w : World} {ao : Option Addr} {xs : List Int} (h : IntsAt k w ao xs) (n : Nat) : IntsAt k (w.drewN n) ao xs := h
theorem IntsAt.of_owns {k : IntKind} {w : World} {base : Nat} {e : TypeId} {ao : Option Addr} {n cap : Nat} {xs : List Int} (h : w.ownsRow base e 1 (.slice ao n cap) n (xs.map (Value.int k))) : IntsAt k w ao xs := by
  intro j hj
  have hl := h.1
  simp at hl
  rcases h.2 with ⟨h1, h2⟩ | ⟨g, cap', cur, h1, _⟩
  · omega
  · simp only [Value.slice.injEq] at h1
    obtain ⟨rfl, _, rfl⟩ := h1
    refine ⟨g, 0, rfl, ?_⟩
    have := h.cellAt j (by omega)
    simp [hj] at this ⊢
    exact this

/-- A slice of numbers that came in. -/
theorem ints_open {H : Type} {P : Program} {enc : TypeId × Value → H} {W : World} {T E : TypeId} {k : IntKind} {fuel : Nat} {ao : Option Addr} {len cap : Nat} {x : DataW H × List MemPlace} (hT : P.underlying T = some (.slice E)) (hE : P.underlying E = some (.int k)) (hc : P.cellsOf E = 1)
    (h : DataW.trod enc P W 0 (fun _ => true) true fuel T [.slice ao len cap] = some x) : ∃ xs : List Int, xs.length = len ∧ IntsAt k W ao xs ∧ (∀ n ∈ xs, (Lit.int k n).wf = true) ∧ len ≤ maxLen := by
  rcases open_ints hT hE hc h with ⟨hcs, _⟩ | ⟨a, l, c, zs, hcs, _, hl, hm, hz, _, hcell, hwz⟩
  · simp at hcs
    obtain ⟨rfl, rfl, rfl⟩ := hcs
    exact ⟨[], rfl, IntsAt.nil _ _ _, by simp, Nat.zero_le _⟩
  · simp at hcs
    obtain ⟨rfl, rfl, rfl⟩ := hcs
    simp at hz
    refine ⟨zs.take len, by rw [List.length_take]; omega, ?_, fun n hn => hwz n (List.mem_of_mem_take hn), by omega⟩
    intro j hj
    rw [List.length_take] at hj
    obtain ⟨b, off, rfl, hc⟩ := ints_at hcell (by omega)
    refine ⟨b, off, rfl, ?_⟩
    rw [hc j (by omega)]
    simp [show j < len by omega]
/-- The cells of a slice of numbers as the laws on append ask for them. -/
theorem IntsAt.cells {k : IntKind} {w : World} {b o : Nat} {xs : List Int} (h : IntsAt k w (some ⟨b, o, none⟩) xs) : ∀ j u, (xs.map (Value.int k))[j]? = some u → w.cell? ((⟨b, o, none⟩ : Addr).add j) = some u := by
  intro j u hu
  rw [List.getElem?_map] at hu
  rcases Nat.lt_or_ge j xs.length with hj | hj
  · obtain ⟨b', o', h1, h2⟩ := h j hj
    simp only [Option.some.injEq, Addr.mk.injEq, and_true] at h1
    obtain ⟨rfl, rfl⟩ := h1
    rw [add_plain, h2]
    simp [hj] at hu ⊢
    exact hu
  · rw [List.getElem?_eq_none hj] at hu; simp at hu
/-- Where a slice of numbers has one, it lies at a plain address. -/
theorem IntsAt.plain {k : IntKind} {w : World} {ao : Option Addr} {xs : List Int} (h : IntsAt k w ao xs) (hp : 0 < xs.length) : ∃ b o, ao = some ⟨b, o, none⟩ ∧ ∀ j, j < xs.length → w.cell? ⟨b, o + j, none⟩ = some (.int k (xs.getD j 0)) := by
  obtain ⟨b, o, rfl, _⟩ := h 0 hp
  refine ⟨b, o, rfl, fun j hj => ?_⟩
  obtain ⟨b', o', h1, h2⟩ := h j hj
  simp only [Option.some.injEq, Addr.mk.injEq, and_true] at h1
  obtain ⟨rfl, rfl⟩ := h1
  exact h2
/-- The same, wherever it lies (nil too). -/
theorem IntsAt.news {k : IntKind} {w : World} {ao : Option Addr} {xs : List Int} (h : IntsAt k w ao xs) : ∀ ad, ao = some ad → ∀ j u, (xs.map (Value.int k))[j]? = some u → w.cell? (ad.add j) = some u := by
  intro ad ha j u hu
  have hj : j < xs.length := by
    rcases Nat.lt_or_ge j xs.length with h' | h'
    · exact h'
    · rw [List.getElem?_eq_none (by simpa using h')] at hu; cases hu
  obtain ⟨b, o, rfl, _⟩ := h j hj
  cases ha
  exact h.cells j u hu
/-- The same, with what is known of its capacity, and of a nil slice. -/
theorem ints_open2 {H : Type} {P : Program} {enc : TypeId × Value → H} {W : World} {T E : TypeId} {k : IntKind} {fuel : Nat} {ao : Option Addr} {len cap : Nat} {x : DataW H × List MemPlace} (hT : P.underlying T = some (.slice E)) (hE : P.underlying E = some (.int k)) (hc : P.cellsOf E = 1)
    (h : DataW.trod enc P W 0 (fun _ => true) true fuel T [.slice ao len cap] = some x) : ∃ xs : List Int, xs.length = len ∧ IntsAt k W ao xs ∧ (∀ n ∈ xs, (Lit.int k n).wf = true) ∧ len ≤ maxLen ∧ (ao = none → len = 0) ∧ len ≤ cap := by
  obtain ⟨xs, h1, h2, h3, h4⟩ := ints_open hT hE hc h
  rcases open_ints hT hE hc h with ⟨hcs, _⟩ | ⟨a, l, c, zs, hcs, _, hl, hm, hz, _, hcell, hwz⟩
  · simp at hcs
    obtain ⟨rfl, rfl, rfl⟩ := hcs
    exact ⟨xs, h1, h2, h3, h4, fun _ => rfl, Nat.le_refl _⟩
  · simp at hcs
    obtain ⟨rfl, rfl, rfl⟩ := hcs
    exact ⟨xs, h1, h2, h3, h4, (fun h => by cases h), hl⟩
/-- The same, with what is known of its datum. -/
theorem ints_open3 {H : Type} {P : Program} {enc : TypeId × Value → H} {W : World} {T E : TypeId} {k : IntKind} {fuel : Nat} {ao : Option Addr} {len cap : Nat} {x : DataW H × List MemPlace} (hT : P.underlying T = some (.slice E)) (hE : P.underlying E = some (.int k)) (hc : P.cellsOf E = 1)
    (h : DataW.trod enc P W 0 (fun _ => true) true fuel T [.slice ao len cap] = some x) : ∃ xs : List Int, xs.length = len ∧ IntsAt k W ao xs ∧ (∀ n ∈ xs, (Lit.int k n).wf = true) ∧ len ≤ maxLen ∧ (ao = none → len = 0) ∧ len ≤ cap ∧ (len = 0 ∨ ∃ elems spare, x.1 = .slice elems spare ∧ elems.length = len) := by
  obtain ⟨xs, h1, h2, h3, h4, h5, h6⟩ := ints_open2 hT hE hc h
  refine ⟨xs, h1, h2, h3, h4, h5, h6, ?_⟩
  rcases open_ints hT hE hc h with ⟨hcs, _⟩ | ⟨a, l, c, zs, hcs, _, hl, hm, hz, hx, _, _⟩
  · simp at hcs
    obtain ⟨rfl, rfl, rfl⟩ := hcs
    exact .inl rfl
  · simp at hcs
    obtain ⟨rfl, rfl, rfl⟩ := hcs
    simp at hz
    exact .inr ⟨_, _, by rw [hx], by simp [lits]; omega⟩
end Go.Mine
