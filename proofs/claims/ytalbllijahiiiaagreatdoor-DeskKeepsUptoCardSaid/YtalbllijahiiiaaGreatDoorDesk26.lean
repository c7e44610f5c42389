/- rose.Less: what is less, plainly; how a round begins. -/
import Derived.Test.YtalbllijahiiiaaGreatDoorDesk25
namespace Go.Proofs.YtalbllijahiiiaaGreatDoor
open Go.RowKit Go.Mine Go.Mine.Desk

theorem kept_filter (g : G) (l : List Int) : ∀ ts : List (List Int), (ts.map (mend g)).filter (fun m => tapeLt m l) = ts.flatMap (kept g l)
  | [] => rfl
  | t :: r => by
    rw [List.map_cons, List.filter_cons, List.flatMap_cons, kept_filter g l r]
    unfold kept
    cases tapeLt (mend g t) l <;> simp
theorem lessAt_kept (g : G) (l : List Int) (i : Nat) : lessAt g l i = (tries l i).flatMap (kept g l) := kept_filter g l _
theorem less_snoc (g : G) (l : List Int) (i : Nat) : (List.range (i + 1)).flatMap (lessAt g l) = (List.range i).flatMap (lessAt g l) ++ lessAt g l i := by
  rw [List.range_succ, List.flatMap_append]; simp
theorem kept_len (g : G) (l t : List Int) : (kept g l t).length ≤ 1 := by unfold kept; split <;> simp
theorem lessAt_len (g : G) (l : List Int) (i : Nat) : (lessAt g l i).length ≤ 4 := by
  unfold lessAt
  refine Nat.le_trans (List.length_filter_le _ _) ?_
  rw [List.length_map]
  unfold tries
  split <;> simp
theorem less_len (g : G) (l : List Int) : ∀ i, ((List.range i).flatMap (lessAt g l)).length ≤ 4 * i
  | 0 => by simp
  | i + 1 => by
    rw [less_snoc, List.length_append]
    have := less_len g l i
    have := lessAt_len g l i
    omega
theorem playN_len {a m : Int} : ∀ {k : Nat} {r zs r' : List Int}, playN a m k r = .ok (zs, r') → r.length = k + r'.length
  | 0, r, zs, r', h => by simp only [playN, Except.ok.injEq, Prod.mk.injEq] at h; rw [h.2]; simp
  | k + 1, [], zs, r', h => by simp [playN] at h
  | k + 1, x :: r, zs, r', h => by
    rw [playN] at h
    split at h
    · cases h
    · cases hp : playN a m k r with
      | error e => rw [hp] at h; cases h
      | ok q =>
        obtain ⟨ys, r2⟩ := q
        rw [hp] at h
        simp only [Except.ok.injEq, Prod.mk.injEq] at h
        obtain ⟨rfl, rfl⟩ := h
        have := playN_len hp
        rw [List.length_cons]
        omega
/-- A tape that can be replayed is short. -/
theorem replay_short {g : G} (hr : g.right) {ts : List Int} {x : V} (h : replay g ts = .ok x) : ts.length ≤ 6 := by
  cases g with
  | int a b =>
    rw [replay] at h
    cases hp : playN a (b - a) 1 ts with
    | error e => rw [hp] at h; cases h
    | ok q =>
      obtain ⟨zs, r⟩ := q
      rw [hp] at h
      simp only at h
      split at h
      · rename_i hr0
        have := playN_len hp
        rw [hr0] at this
        simp at this
        omega
      · cases h
  | many n a b =>
    obtain ⟨hn0, hn5, _⟩ := hr
    cases ts with
    | nil => cases h
    | cons k l =>
      rw [replay] at h
      split at h
      · cases h
      · cases hp : playN a (b - a) k.toNat l with
        | error e => rw [hp] at h; cases h
        | ok q =>
          obtain ⟨zs, r⟩ := q
          rw [hp] at h
          simp only at h
          split at h
          · rename_i hr0
            have := playN_len hp
            rw [hr0] at this
            simp at this ⊢
            omega
          · cases h
theorem less2_enters (args : Array Value) (w : World) : Sem.run Tryz.prog (callFunc 91 args) w = .ok (.enter 91 args) w := by kernel_rfl
theorem less1_enters (args : Array Value) (w : World) : Sem.run Tryz.prog (callFunc 88 args) w = .ok (.enter 88 args) w := by kernel_rfl
/-- Three rows of their own. -/
theorem GridOwn.three {w w7 : World} {B g cap : Nat} {v0 v1 v2 : Value} {r0 r1 r2 : List Int} {cs : Array Value} (h0 : w.ownsRow B 3 1 v0 r0.length (r0.map (.int .i64))) (h1 : w.ownsRow B 3 1 v1 r1.length (r1.map (.int .i64))) (h2 : w.ownsRow B 3 1 v2 r2.length (r2.map (.int .i64)))
    (hown : w7.ownsRow B 48 1 (.slice (some ⟨g, 0, none⟩) 3 cap) 3 [v0, v1, v2]) (hgr : (w.alloc (.cells cs 48)).grownBy w7 none) : GridOwn w7 B (.slice (some ⟨g, 0, none⟩) 3 cap) [r0, r1, r2] := by
  have hk : ∀ {v : Value} {r : List Int}, w.ownsRow B 3 1 v r.length (r.map (.int .i64)) → w7.ownsRow B 3 1 v r.length (r.map (.int .i64)) := fun h => owns_same h fun g hg => by
    have hlt := (h.lt g hg).2
    rw [hgr.block g (by simp; omega) (fun e => by cases e), Below.heap_alloc w _ g hlt]
  refine ⟨[v0, v1, v2], hown, fun j hj => ?_⟩
  have : j = 0 ∨ j = 1 ∨ j = 2 := by simp at hj; omega
  rcases this with rfl | rfl | rfl
  · exact ⟨v0, rfl, hk h0⟩
  · exact ⟨v1, rfl, hk h1⟩
  · exact ⟨v2, rfl, hk h2⟩
end Go.Proofs.YtalbllijahiiiaaGreatDoor
