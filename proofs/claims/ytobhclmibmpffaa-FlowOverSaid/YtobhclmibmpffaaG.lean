import Derived.Test.YtobhclmibmpffaaF
import Derived.Test.YtobhclmibmpffaaMore
import Derived.Deep.CutRange
namespace Go.Proofs.Ytobhclmibmpffaa
open Go.RowKit Go.Mine Go.Mine.Flow Go.Deep

/-- What Reach hands on, as two values. -/
def RVal (n : Int) (es : List (Int × Int)) (s x : Value) (w : World) : Prop :=
  (x = .nilIface ∧ ok n es ∧ ∃ ao cap zs, s = .slice ao zs.length cap ∧ IntsAt .i64 w ao zs ∧ zs.length ≤ 12 ∧ ∀ x, x ∈ zs ↔ ∃ v : Nat, x = v ∧ v < n.toNat ∧ R (nat es) (-1) v) ∨
  ((∃ c, x = .iface 41 (.int .i64 c)) ∧ ¬ ok n es)
def OVal (n : Int) (es : List (Int × Int)) (i : Int) (s x : Value) (w : World) : Prop :=
  (x = .nilIface ∧ ok n es ∧ (0 ≤ i ∧ i < n ∧ R (nat es) (-1) i.toNat) ∧ ∃ ao cap zs, s = .slice ao zs.length cap ∧ IntsAt .i64 w ao zs ∧ zs.length ≤ 12 ∧ zs = passed (nat es) i.toNat n.toNat) ∨
  ((∃ c, x = .iface 41 (.int .i64 c)) ∧ (ok n es → ¬ (0 ≤ i ∧ i < n ∧ R (nat es) (-1) i.toNat)))
theorem OVal.below {n : Int} {es : List (Int × Int)} {i : Int} {s x : Value} {w w' : World} (h : OVal n es i s x w) (hb : Below w.heap.size w w') : OVal n es i s x w' := by
  rcases h with ⟨h1, h2, h3, ao, cap, zs, h4, h5, h6⟩ | h
  · exact .inl ⟨h1, h2, h3, ao, cap, zs, h4, h5.below (Nat.le_refl _) hb, h6⟩
  · exact .inr h
theorem RVal.below {n : Int} {es : List (Int × Int)} {s x : Value} {w w' : World} (h : RVal n es s x w) (hb : Below w.heap.size w w') : RVal n es s x w' := by
  rcases h with ⟨h1, h2, ao, cap, zs, h4, h5, h6⟩ | h
  · exact .inl ⟨h1, h2, ao, cap, zs, h4, h5.below (Nat.le_refl _) hb, h6⟩
  · exact .inr h
theorem reach_val (n : Int) (es : List (Int × Int)) (lo : Option Addr) (lc : Nat) (W : World) (hx : PairsAt W lo es) (hl : es.length ≤ maxLen) :
    Calls Try.prog 6 #[.int .i64 n, .slice lo es.length lc] W fun e w' => ∃ s x, e = .returned (.tuple #[s, x]) ∧ RVal n es s x w' ∧ Below W.heap.size W w' := by
  refine (reach_any n es lo lc W hx hl).mono ?_
  rintro e w' ⟨⟨h1, ao, cap, zs, rfl, h2⟩ | ⟨h1, c, rfl⟩, hb⟩
  · exact ⟨_, _, rfl, .inl ⟨rfl, h1, ao, cap, zs, rfl, h2⟩, hb⟩
  · exact ⟨_, _, rfl, .inr ⟨⟨c, rfl⟩, h1⟩, hb⟩
theorem over_val (n : Int) (es : List (Int × Int)) (i : Int) (lo : Option Addr) (lc : Nat) (W : World) (hx : PairsAt W lo es) (hl : es.length ≤ maxLen) :
    Calls Try.prog 7 #[.int .i64 n, .slice lo es.length lc, .int .i64 i] W fun e w' => ∃ s x, e = .returned (.tuple #[s, x]) ∧ OVal n es i s x w' ∧ Below W.heap.size W w' := by
  refine (over_any n es i lo lc W hx hl).mono ?_
  rintro e w' ⟨⟨h1, h2⟩ | ⟨h1, c, rfl⟩, hb⟩
  · have hn : ((n.toNat : Nat) : Int) = n := by have := h1.1; omega
    unfold OverPost at h2
    rw [hn] at h2
    rcases h2 with ⟨h3, c, rfl⟩ | ⟨h3, ao, cap, zs, rfl, h4⟩
    · exact ⟨_, _, rfl, .inr ⟨⟨c, rfl⟩, fun _ => h3⟩, hb⟩
    · exact ⟨_, _, rfl, .inl ⟨rfl, h1, h3, ao, cap, zs, rfl, h4⟩, hb⟩
  · exact ⟨_, _, rfl, .inr ⟨⟨c, rfl⟩, fun h => absurd h h1⟩, hb⟩

theorem ok_less {n : Int} {es : List (Int × Int)} {x : Int × Int} (h : ok n (es ++ [x])) : ok n es :=
  ⟨h.1, h.2.1, by have := h.2.2.1; simp at this; omega, fun e he => h.2.2.2 e (by simp [he])⟩
theorem nat_more (es : List (Int × Int)) (x : Int × Int) : ∀ e, e ∈ nat es → e ∈ nat (es ++ [x]) := by
  intro e he
  unfold nat at he ⊢
  rw [List.map_append]
  exact List.mem_append_left _ he

theorem info24 : (Try.prog.info? 24).map (fun i => (i.zero, i.size, i.bytes)) = some (some (.agg #[.int .i64 0, .int .i64 0]), 2, 16) := by kernel_rfl
end Go.Proofs.Ytobhclmibmpffaa
