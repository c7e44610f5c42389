/- A slice of numbers of the call's own, behind the library's contracts (sorted, compacted, struck out): no program. -/
import Derived.Test.YtppbaiilhaagdaaSortP
import Derived.Test.YtppbaiilhaagdaaInts
import Derived.Sort.OwnSortedInts
namespace Go.Mine
open Go Go.RowKit Go.Sort Go.Proofs

theorem owns_take {w : World} {B n cap k : Nat} {e : TypeId} {ao : Option Addr} {xs : List Value} (h : w.ownsRow B e 1 (.slice ao n cap) n xs) (hk : k ≤ n) : w.ownsRow B e 1 (.slice ao k cap) k (xs.take k) := by
  have hl := h.1
  rcases h.2 with ⟨h1, h2⟩ | ⟨g, c, cur, h1, hB, hg, hnc, hc, hs, ht⟩
  · refine ⟨by simp; omega, .inl ⟨?_, by omega⟩⟩
    simp at h1
    obtain ⟨rfl, rfl, rfl⟩ := h1
    have : k = 0 := by omega
    rw [this]
  · simp only [Value.slice.injEq] at h1
    obtain ⟨rfl, _, rfl⟩ := h1
    refine ⟨by simp; omega, .inr ⟨g, cap, cur, rfl, hB, hg, by omega, hc, hs, ?_⟩⟩
    rw [Nat.mul_one] at ht ⊢
    rw [← ht, List.take_take]
    congr 1
    omega

theorem own_holds {w : World} {base g cap : Nat} {e : TypeId} {ss : List Int} (ho : w.ownsRow base e 1 (.slice (some ⟨g, 0, none⟩) ss.length cap) ss.length (ss.map (Value.int .i64))) :
    Holds (Value.int .i64) w g 0 ss.toArray ∧ ss.length ≤ cap ∧ cap ≤ maxLen := by
  rcases ho.2 with ⟨h0, _⟩ | ⟨g', cap', cur, hv, hbase, hb, h1, h2, h3, h4⟩
  · cases h0
  cases hv
  exact ⟨holds_of_blockI hb (by rwa [Nat.mul_one] at h4), h1, h2⟩
theorem own_put {w : World} {base g cap : Nat} {e : TypeId} {ss ts : List Int} (ho : w.ownsRow base e 1 (.slice (some ⟨g, 0, none⟩) ss.length cap) ss.length (ss.map (Value.int .i64))) (hl : ts.length = ss.length) (n : Nat) (os : Array Obj) :
    (grow (putRow (Value.int .i64) (Sort.ahead w n) g 0 ts.toArray) os).ownsRow base e 1 (.slice (some ⟨g, 0, none⟩) ss.length cap) ss.length (ts.map (Value.int .i64)) ∧ w.grownBy (grow (putRow (Value.int .i64) (Sort.ahead w n) g 0 ts.toArray) os) (some g) := by
  rcases ho.2 with ⟨h0, _⟩ | ⟨g', cap', cur, hv, hbase, hb, h1, h2, h3, h4⟩
  · cases h0
  cases hv
  exact ⟨ownsRow_sortedI hl hbase hb h1 h2 (by simpa using h3), grownBy_sortedI _⟩
/-- The row cut to its head, zeros behind. -/
theorem own_cut {w : World} {base g cap : Nat} {e : TypeId} {ss ys : List Int} (ho : w.ownsRow base e 1 (.slice (some ⟨g, 0, none⟩) ss.length cap) ss.length (ss.map (Value.int .i64))) (hl : ys.length ≤ ss.length) (n : Nat) :
    (putRow (Value.int .i64) (Sort.ahead w n) g 0 (ys ++ List.replicate (ss.length - ys.length) 0).toArray).ownsRow base e 1 (.slice (some ⟨g, 0, none⟩) ys.length cap) ys.length (ys.map (Value.int .i64)) ∧ w.grownBy (putRow (Value.int .i64) (Sort.ahead w n) g 0 (ys ++ List.replicate (ss.length - ys.length) 0).toArray) (some g) := by
  have h := own_put (ts := ys ++ List.replicate (ss.length - ys.length) 0) ho (by simp; omega) n #[]
  rw [grow_empty] at h
  refine ⟨?_, h.2⟩
  have ht := owns_take h.1 hl
  have e : ((ys ++ List.replicate (ss.length - ys.length) 0).map (Value.int .i64)).take ys.length = ys.map (Value.int .i64) := by
    rw [List.map_append, List.take_append_of_le_length (by simp), List.take_of_length_le (by simp)]
  rw [e] at ht
  exact ht
end Go.Mine
