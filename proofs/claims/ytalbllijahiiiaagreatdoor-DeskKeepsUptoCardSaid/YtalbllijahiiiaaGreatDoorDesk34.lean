/- What is drawn can be replayed; runs, plainly. -/
import Derived.Test.YtalbllijahiiiaaGreatDoorDesk31
namespace Go.Proofs.YtalbllijahiiiaaGreatDoor
open Go.RowKit Go.Mine Go.Mine.Desk

theorem playN_full (a m : Int) : ∀ r : List Int, (∀ x ∈ r, 0 ≤ x ∧ x ≤ m) → playN a m r.length r = .ok (r.map (a + ·), [])
  | [], _ => rfl
  | x :: r, h => by
    have hx := h x List.mem_cons_self
    rw [List.length_cons, playN, if_neg (by omega), playN_full a m r (fun z hz => h z (List.mem_cons_of_mem _ hz))]
    rfl
theorem drawMany_b {m : Int} (hm : 0 ≤ m) : ∀ (k : Nat) (s : Seed), (drawMany m k s).1.length = k ∧ ∀ x ∈ (drawMany m k s).1, 0 ≤ x ∧ x ≤ m
  | 0, s => ⟨rfl, fun x hx => by simp [drawMany] at hx⟩
  | k + 1, s => by
    obtain ⟨h1, h2⟩ := drawMany_b hm k s
    rw [drawMany]
    refine ⟨by simp [h1], fun x hx => ?_⟩
    rw [List.mem_append, List.mem_singleton] at hx
    rcases hx with hx | rfl
    · exact h2 x hx
    · have := Seed.below_b (drawMany m k s).2 (n := m + 1) (by omega)
      omega
theorem draw_replay {g : G} (hr : g.right) (s : Seed) : ∃ x, replay g (draw g s) = .ok x := by
  cases g with
  | int a b =>
    have h1 := hr.2.2.1
    have h2 := Seed.below_b s (n := b - a + 1) (by omega)
    have h := playN_full a (b - a) [s.below (b - a + 1)] (by intro x hx; rw [List.mem_singleton] at hx; subst hx; omega)
    rw [List.length_singleton] at h
    refine ⟨.num (a + s.below (b - a + 1)), ?_⟩
    rw [draw, replay, h]
    rfl
  | many n a b =>
    have h0 := hr.1
    have h1 := hr.2.2.2.2.1
    have h2 := Seed.below_b s (n := n + 1) (by omega)
    obtain ⟨h3, h4⟩ := drawMany_b (m := b - a) (by omega) (s.below (n + 1)).toNat s.next
    have h := playN_full a (b - a) _ h4
    rw [h3] at h
    refine ⟨.list ((drawMany (b - a) (s.below (n + 1)).toNat s.next).1.map (a + ·)), ?_⟩
    rw [draw, replay, if_neg (by omega), h]
    rfl
/-- Runs, up to one that fails. -/
def runF (g : G) (n : Int) : Nat → Seed → Int → Int × Option (List Int × Int)
  | 0, _, r => (r, none)
  | f + 1, s, r => if bad g n (draw g s.own) = true then (r + 1, some (walk g n (draw g s.own))) else runF g n f s.left (r + 1)
def runR (g : G) (n sd many : Int) : Except Int (Int × Option (List Int × Int)) := if many < 0 ∨ 50 < many then .error 1 else .ok (runF g n many.toNat (Seed.new sd) 0)
theorem runF_bad {g : G} {n : Int} {f : Nat} {s : Seed} {r : Int} (h : bad g n (draw g s.own) = true) : runF g n (f + 1) s r = (r + 1, some (walk g n (draw g s.own))) := by rw [runF, if_pos h]
theorem runF_ok {g : G} {n : Int} {f : Nat} {s : Seed} {r : Int} (h : bad g n (draw g s.own) = false) : runF g n (f + 1) s r = runF g n f s.left (r + 1) := by rw [runF, if_neg (by rw [h]; simp)]
theorem Seed.left_ok {s : Seed} (h : s.ok) : s.left.ok := Seed.next_ok (Seed.next_ok h)
/-- How Run ends. -/
def RunPost (g : G) (n sd many : Int) (w : World) (e : Ending) (w' : World) : Prop :=
  Below w.heap.size w w' ∧ ((∃ c, runR g n sd many = .error c ∧ e = .returned (.tuple #[.agg #[.int .i64 0, .bool false, .slice none 0 0, .int .i64 0], .iface 36 (.int .i64 c)])) ∨
    (∃ r, runR g n sd many = .ok (r, none) ∧ i64ok r ∧ e = .returned (.tuple #[.agg #[.int .i64 r, .bool false, .slice none 0 0, .int .i64 0], .nilIface])) ∨
    (∃ r l k uo uc, runR g n sd many = .ok (r, some (l, k)) ∧ i64ok r ∧ i64ok k ∧ l.length ≤ 6 ∧ tape1 l ∧ e = .returned (.tuple #[.agg #[.int .i64 r, .bool true, .slice uo l.length uc, .int .i64 k], .nilIface]) ∧ IntsAt .i64 w' uo l ∧ ∀ q o, uo = some ⟨q, o, none⟩ → w.heap.size ≤ q))
end Go.Proofs.YtalbllijahiiiaaGreatDoor
