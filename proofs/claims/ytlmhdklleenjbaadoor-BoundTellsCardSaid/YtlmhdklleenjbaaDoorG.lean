/- BoundTells: what the reference comes to. -/
import Derived.Test.YtlmhdklleenjbaaDoorF
namespace Go.Proofs.YtlmhdklleenjbaaDoor
open Go.RowKit Go.Mine Go.Sort

/-- At the edge, and within. -/
def Pe (lo hi y : Int) : Prop := y ∈ five lo hi ∧ lo ≤ y ∧ y ≤ hi
theorem mem_five (lo hi y : Int) : y ∈ five lo hi ↔ (y = lo ∨ y = lo + 1 ∨ y = lo + (hi - lo) / 2 ∨ y = hi - 1 ∨ y = hi) := by simp [five]
theorem mem_edge (lo hi y : Int) : y ∈ edgeL lo hi ↔ Pe lo hi y := by rw [mem_edgeL, Pe, mem_five]
theorem rise_push {ws : List Int} {z : Int} (h : Rise ws) (hz : ∀ y ∈ ws, y < z) : Rise (ws ++ [z]) := by
  unfold Rise
  rw [List.pairwise_append]
  exact ⟨h, by simp, fun a ha b hb => by simp at hb; subst hb; exact hz a ha⟩
structure Want1 (lo hi x : Int) (ws : List Int) : Prop where
  rise : Rise ws
  mem : ∀ y, y ∈ ws ↔ (y < x ∧ Pe lo hi y)
theorem Want1.start (lo hi : Int) : Want1 lo hi (lo - 1) [] := ⟨by simp [Rise], fun y => by
  constructor
  · intro h; cases h
  · rintro ⟨h1, _, h2, _⟩; omega⟩
theorem Want1.skip {lo hi x : Int} {ws : List Int} (h : Want1 lo hi x ws) (hp : ¬ Pe lo hi x) : Want1 lo hi (x + 1) ws := ⟨h.rise, fun y => by
  rw [h.mem]
  constructor
  · rintro ⟨h1, h2⟩; exact ⟨by omega, h2⟩
  · rintro ⟨h1, h2⟩
    by_cases e : y = x
    · subst e; exact absurd h2 hp
    · exact ⟨by omega, h2⟩⟩
theorem Want1.push {lo hi x : Int} {ws : List Int} (h : Want1 lo hi x ws) (hp : Pe lo hi x) : Want1 lo hi (x + 1) (ws ++ [x]) := ⟨rise_push h.rise fun y hy => ((h.mem y).1 hy).1, fun y => by
  rw [List.mem_append, h.mem, List.mem_singleton]
  constructor
  · rintro (⟨h1, h2⟩ | rfl)
    · exact ⟨by omega, h2⟩
    · exact ⟨by omega, hp⟩
  · rintro ⟨h1, h2⟩
    by_cases e : y = x
    · exact .inr e
    · exact .inl ⟨by omega, h2⟩⟩
def rest (lo hi : Int) : List Int := [lo + (hi - lo) / 2, hi - 1, hi]
structure Want2 (lo hi : Int) (i : Nat) (ws : List Int) : Prop where
  rise : Rise ws
  mem : ∀ y, y ∈ ws ↔ (Pe lo hi y ∧ (y ≤ lo + 2 ∨ y ∈ (rest lo hi).take i))
theorem Want2.start {lo hi : Int} {ws : List Int} (h : Want1 lo hi (lo + 3) ws) : Want2 lo hi 0 ws := ⟨h.rise, fun y => by
  rw [h.mem]
  simp only [List.take_zero, List.not_mem_nil, or_false]
  constructor
  · rintro ⟨h1, h2⟩; exact ⟨h2, by omega⟩
  · rintro ⟨h1, h2⟩; exact ⟨by omega, h1⟩⟩
theorem rest_take {lo hi z : Int} {i : Nat} (hi3 : i < 3) (hz : z = (rest lo hi).getD i 0) : (rest lo hi).take (i + 1) = (rest lo hi).take i ++ [z] := by
  rw [List.take_succ_eq_append_getElem (by simpa [rest] using hi3), hz]
  congr 1
  simp [rest, hi3]
theorem Want2.skip {lo hi z : Int} {i : Nat} {ws : List Int} (h : Want2 lo hi i ws) (hi3 : i < 3) (hz : z = (rest lo hi).getD i 0) (hn : z ≤ lo + 2 ∨ z ∈ ws) : Want2 lo hi (i + 1) ws := ⟨h.rise, fun y => by
  rw [h.mem, rest_take hi3 hz, List.mem_append, List.mem_singleton]
  constructor
  · rintro ⟨h1, h2⟩; exact ⟨h1, h2.elim .inl fun h => .inr (.inl h)⟩
  · rintro ⟨h1, h2 | h2 | rfl⟩
    · exact ⟨h1, .inl h2⟩
    · exact ⟨h1, .inr h2⟩
    · rcases hn with hn | hn
      · exact ⟨h1, .inl hn⟩
      · exact ⟨h1, ((h.mem y).1 hn).2⟩⟩
theorem Want2.push {lo hi z : Int} {i : Nat} {ws : List Int} (h : Want2 lo hi i ws) (hi3 : i < 3) (hz : z = (rest lo hi).getD i 0) (hn : lo + 2 < z) (hno : z ∉ ws) : Want2 lo hi (i + 1) (ws ++ [z]) := by
  have hzc : (i = 0 ∧ z = lo + (hi - lo) / 2) ∨ (i = 1 ∧ z = hi - 1) ∨ (i = 2 ∧ z = hi) := by
    rcases (show i = 0 ∨ i = 1 ∨ i = 2 by omega) with rfl | rfl | rfl
    · exact .inl ⟨rfl, hz⟩
    · exact .inr (.inl ⟨rfl, hz⟩)
    · exact .inr (.inr ⟨rfl, hz⟩)
  have hpz : Pe lo hi z := by
    refine ⟨(mem_five lo hi z).2 ?_, by omega, by omega⟩
    rcases hzc with ⟨_, e⟩ | ⟨_, e⟩ | ⟨_, e⟩
    · exact .inr (.inr (.inl e))
    · exact .inr (.inr (.inr (.inl e)))
    · exact .inr (.inr (.inr (.inr e)))
  refine ⟨rise_push h.rise fun y hy => ?_, fun y => ?_⟩
  · have hyz : y ≠ z := fun e => hno (e ▸ hy)
    rcases ((h.mem y).1 hy).2 with h1 | h1
    · omega
    · rcases hzc with ⟨rfl, e⟩ | ⟨rfl, e⟩ | ⟨rfl, e⟩
      · simp at h1
      · simp [rest] at h1; omega
      · simp [rest] at h1; omega
  · rw [List.mem_append, h.mem, rest_take hi3 hz, List.mem_append, List.mem_singleton]
    constructor
    · rintro (⟨h1, h2⟩ | rfl)
      · exact ⟨h1, h2.elim .inl fun h => .inr (.inl h)⟩
      · exact ⟨hpz, .inr (.inr rfl)⟩
    · rintro ⟨h1, h2 | h2 | rfl⟩
      · exact .inl ⟨h1, .inl h2⟩
      · exact .inl ⟨h1, .inr h2⟩
      · exact .inr rfl
theorem Want2.fin {lo hi : Int} {ws : List Int} (h : Want2 lo hi 3 ws) : ws = edgeL lo hi := by
  refine rise_ext h.rise (sorted_rise _).1 fun y => ?_
  rw [h.mem, mem_edge lo hi y]
  constructor
  · exact fun h => h.1
  · intro hp
    refine ⟨hp, ?_⟩
    have := (mem_five lo hi y).1 hp.1
    simp [rest]
    omega
theorem Want1.len {lo hi x : Int} {ws : List Int} (h : Want1 lo hi x ws) : ws.length ≤ 5 := by
  have h1 : ws = (edgeL lo hi).filter fun y => decide (y < x) := rise_ext h.rise ((sorted_rise _).1.filter _) fun y => by
    rw [h.mem, List.mem_filter, mem_edge]
    simp
    exact And.comm
  rw [h1]
  exact Nat.le_trans (List.length_filter_le _ _) (edgeL_len lo hi)
theorem Want2.len {lo hi : Int} {i : Nat} {ws : List Int} (h : Want2 lo hi i ws) : ws.length ≤ 5 := by
  have h1 : ws = (edgeL lo hi).filter fun y => decide (y ≤ lo + 2 ∨ y ∈ (rest lo hi).take i) := rise_ext h.rise ((sorted_rise _).1.filter _) fun y => by
    rw [h.mem, List.mem_filter, mem_edge, decide_eq_true_iff]
  rw [h1]
  exact Nat.le_trans (List.length_filter_le _ _) (edgeL_len lo hi)
end Go.Proofs.YtlmhdklleenjbaaDoor
