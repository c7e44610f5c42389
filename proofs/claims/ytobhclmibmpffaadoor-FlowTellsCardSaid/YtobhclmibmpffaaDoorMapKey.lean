/- What keys a map keyed by an array or a pair of numbers takes. No conditions. -/
import Derived.Maps.Keyed
import Derived.DeepKeys4
namespace Go.Mine
open Go Go.Maps

theorem mapM_some {α β : Type} {f : α → Option β} : ∀ (l : List α), (∀ x ∈ l, ∃ y, f x = some y) → ∃ r, l.mapM f = some r
  | [], _ => ⟨[], by simp⟩
  | x :: xs, h => by
    obtain ⟨y, hy⟩ := h x (by simp)
    obtain ⟨r, hr⟩ := mapM_some xs (fun z hz => h z (List.mem_cons_of_mem _ hz))
    exact ⟨y :: r, by simp [List.mapM_cons, hy, hr]⟩
theorem keyLits_int {P : Program} {e : TypeId} {k : IntKind} (he : P.underlying e = some (.int k)) {z : Int} (hz : (Lit.int k z).wf = true) (d : Nat) : P.keyLits (d + 1) e [.int k z] = some [.int k z] := by
  unfold Program.keyLits
  simp [he, hz]
/-- An array of numbers as a key. -/
theorem keyOf_array {P : Program} {k e : TypeId} {n : Nat} {q : IntKind} (hk : P.underlying k = some (.array n e)) (he : P.underlying e = some (.int q)) (hce : P.cellsOf e = 1) (hck : P.cellsOf k = n) (hkt : P.keyType k = true) (hs : 0 < P.types.size)
    {zs : List Int} (hl : zs.length = n) (hw : ∀ z ∈ zs, (Lit.int q z).wf = true) : ∃ l, keyOf P k (.agg (zs.map (Value.int q)).toArray) = some l := by
  obtain ⟨s, hs'⟩ : ∃ s, P.types.size = s + 1 := ⟨P.types.size - 1, by omega⟩
  have hm : ∃ r, (List.range n).mapM (fun i => P.keyLits (s + 1) e (((zs.map (Value.int q)).drop (i * P.cellsOf e)).take (P.cellsOf e))) = some r := by
    refine mapM_some _ (fun i hi => ?_)
    have hi' : i < zs.length := by rw [hl]; exact List.mem_range.1 hi
    refine ⟨[.int q zs[i]], ?_⟩
    have e1 : ((zs.map (Value.int q)).drop (i * P.cellsOf e)).take (P.cellsOf e) = [.int q zs[i]] := by
      rw [hce, Nat.mul_one, List.drop_eq_getElem_cons (by simpa using hi')]
      simp
    rw [e1]
    exact keyLits_int he (hw _ (List.getElem_mem hi')) s
  obtain ⟨r, hr⟩ := hm
  have hlits : P.keyLits (s + 1 + 1) k (zs.map (Value.int q)) = some r.flatten := by
    have hr' := hr
    rw [Program.keyLits.eq_def]
    simp only [hk]
    rw [if_pos (by rw [hck]; simpa using hl), hr']
    rfl
  have hf : (Value.agg (zs.map (Value.int q)).toArray).formed P k = true := by
    unfold Value.formed
    simp [hk, hck, hl]
  refine ⟨.string (keyBytes r.flatten), ?_⟩
  unfold keyOf
  rw [hk]
  simp only [hkt, hf, Bool.and_self, if_true, hs', Value.cells]
  simpa using congrArg (Option.map fun ls => Lit.string (keyBytes ls)) hlits
/-- A struct of two numbers as a key. -/
theorem keyOf_struct2 {P : Program} {k e : TypeId} {f0 f1 : Field} {q : IntKind} (hk : P.underlying k = some (.struct #[f0, f1])) (h0 : f0.type = e) (h1 : f1.type = e) (o0 : f0.offset = 0) (o1 : f1.offset = 1) (n0 : (f0.name != "_") = true) (n1 : (f1.name != "_") = true)
    (he : P.underlying e = some (.int q)) (hce : P.cellsOf e = 1) (hck : P.cellsOf k = 2) (hkt : P.keyType k = true) (hs : 0 < P.types.size)
    {a b : Int} (hwa : (Lit.int q a).wf = true) (hwb : (Lit.int q b).wf = true) : ∃ l, keyOf P k (.agg #[.int q a, .int q b]) = some l := by
  obtain ⟨s, hs'⟩ : ∃ s, P.types.size = s + 1 := ⟨P.types.size - 1, by omega⟩
  have hlits : P.keyLits (s + 1 + 1) k [.int q a, .int q b] = some [.int q a, .int q b] := by
    rw [Program.keyLits.eq_def]
    simp only [hk]
    rw [if_pos (by rw [hck]; refine ⟨rfl, ?_⟩; simp [n0, n1])]
    simp [h0, h1, o0, o1, hce, keyLits_int he hwa s, keyLits_int he hwb s]
  have hf : (Value.agg #[.int q a, .int q b]).formed P k = true := by
    unfold Value.formed
    simp [hk, hck]
  refine ⟨.string (keyBytes [.int q a, .int q b]), ?_⟩
  unfold keyOf
  rw [hk]
  simp only [hkt, hf, Bool.and_self, if_true, hs', Value.cells]
  simpa using congrArg (Option.map fun ls => Lit.string (keyBytes ls)) hlits
end Go.Mine
