/- FlowTells: what the three functions answer, beside the references' lists. No conditions. -/
import Derived.Test.YtobhclmibmpffaaDoorF
import Derived.Test.YtobhclmibmpffaaDoorLeft
import Derived.Test.YtobhclmibmpffaaDoorEdgeFault
import Derived.Test.YtobhclmibmpffaaDoorReachOf
import Derived.Test.YtobhclmibmpffaaDoorHasE
import Derived.Test.YtobhclmibmpffaaDoorErrIs
namespace Go.Proofs.YtobhclmibmpffaaDoor
open Go.RowKit Go.Mine Go.Mine.Flow

def RR (n : Int) (es : List (Int × Int)) (zr : List Int) : Prop :=
  (¬ ok n es ∧ zr = []) ∨ (ok n es ∧ zr = reached (nat es) n.toNat)
/-- What is wrong with i. -/
def FC (n : Int) (es : List (Int × Int)) (i f : Int) : Prop :=
  (¬ (0 ≤ i ∧ i < n) ∧ f = 1) ∨ ((0 ≤ i ∧ i < n) ∧ ¬ R (nat es) (-1) i.toNat ∧ f = 2) ∨ ((0 ≤ i ∧ i < n) ∧ R (nat es) (-1) i.toNat ∧ f = 0)
def FR (n : Int) (es : List (Int × Int)) (i f : Int) (zo : List Int) : Prop :=
  (¬ ok n es ∧ f = efault n es ∧ zo = []) ∨ (ok n es ∧ FC n es i f ∧ (f ≠ 0 → zo = []) ∧ (f = 0 → zo = passed (nat es) i.toNat n.toNat))
/-- What is wrong with the way. -/
def GC (es : List (Int × Int)) (way : List Int) (g : Int) : Prop := (isWay es way ∧ g = 0) ∨ (¬ isWay es way ∧ g = 3)
def GR (n : Int) (es : List (Int × Int)) (way : List Int) (g : Int) (zl : List (Int × Int)) : Prop :=
  (¬ ok n es ∧ g = efault n es ∧ zl = []) ∨ (ok n es ∧ GC es way g ∧ (g ≠ 0 → zl = []) ∧ (g = 0 → zl = left es way))

theorem intsAt_nil (w : World) (ao : Option Addr) : IntsAt .i64 w ao [] := by intro j hj; simp at hj

theorem reach_num {n : Int} {es : List (Int × Int)} {e : Ending} {w' : World} {zr : List Int} (h : ReachAny n es e w') (hr : RR n es zr) :
    ∃ ao cap x, e = .returned (.tuple #[.slice ao zr.length cap, x]) ∧ Num x (efault n es) ∧ IntsAt .i64 w' ao zr := by
  rcases h with ⟨hok, ao, cap, zs, rfl, hi, _, rfl⟩ | ⟨hno, rfl⟩
  · rcases hr with ⟨h, _⟩ | ⟨_, rfl⟩
    · exact absurd hok h
    · exact ⟨ao, cap, _, rfl, by rw [efault_ok hok]; exact Num.nil, hi⟩
  · rcases hr with ⟨_, rfl⟩ | ⟨h, _⟩
    · exact ⟨none, 0, _, rfl, Num.err _, intsAt_nil _ _⟩
    · exact absurd h hno

theorem over_num {n : Int} {es : List (Int × Int)} {i f : Int} {e : Ending} {w' : World} {zo : List Int} (h : OverAny n es i e w') (hr : FR n es i f zo) :
    ∃ ao cap x, e = .returned (.tuple #[.slice ao zo.length cap, x]) ∧ Num x f ∧ IntsAt .i64 w' ao zo := by
  rcases h with ⟨hok, hp⟩ | ⟨hno, rfl⟩
  · rcases hr with ⟨h, _⟩ | ⟨_, hf, h1, h2⟩
    · exact absurd hok h
    · have hn : (n.toNat : Int) = n := by have := hok.1; omega
      unfold OverPost at hp
      rw [hn] at hp
      rcases hp with ⟨hr, rfl⟩ | ⟨hr, hu, rfl⟩ | ⟨⟨hr1, hr2, hu⟩, ao, cap, zs, rfl, hi, _, rfl⟩
      · rcases hf with ⟨_, rfl⟩ | ⟨h, _⟩ | ⟨h, _⟩
        · rw [h1 (by decide)]; exact ⟨none, 0, _, rfl, Num.err _, intsAt_nil _ _⟩
        · exact absurd h hr
        · exact absurd h hr
      · rcases hf with ⟨h, _⟩ | ⟨_, _, rfl⟩ | ⟨_, h, _⟩
        · exact absurd hr h
        · rw [h1 (by decide)]; exact ⟨none, 0, _, rfl, Num.err _, intsAt_nil _ _⟩
        · exact absurd h hu
      · rcases hf with ⟨h, _⟩ | ⟨_, h, _⟩ | ⟨_, _, rfl⟩
        · exact absurd ⟨hr1, hr2⟩ h
        · exact absurd hu h
        · rw [h2 rfl]; exact ⟨ao, cap, _, rfl, Num.nil, hi⟩
  · rcases hr with ⟨_, rfl, rfl⟩ | ⟨h, _⟩
    · exact ⟨none, 0, _, rfl, Num.err _, intsAt_nil _ _⟩
    · exact absurd h hno

theorem left_num {n : Int} {es : List (Int × Int)} {way : List Int} {g : Int} {e : Ending} {w' : World} {zl : List (Int × Int)} (h : LeftPost n es way e w') (hr : GR n es way g zl) :
    ∃ ao cap x, e = .returned (.tuple #[.slice ao zl.length cap, x]) ∧ Num x g ∧ PairsAt w' ao zl := by
  rcases h with ⟨hno, rfl⟩ | ⟨hok, hw, rfl⟩ | ⟨hok, hw, ao, cap, rfl, hp⟩
  · rcases hr with ⟨_, rfl, rfl⟩ | ⟨h, _⟩
    · exact ⟨none, 0, _, rfl, Num.err _, PairsAt.nil _ _⟩
    · exact absurd h hno
  · rcases hr with ⟨h, _⟩ | ⟨_, ⟨h, _⟩ | ⟨_, rfl⟩, h1, _⟩
    · exact absurd hok h
    · exact absurd h hw
    · rw [h1 (by decide)]; exact ⟨none, 0, _, rfl, Num.err _, PairsAt.nil _ _⟩
  · rcases hr with ⟨h, _⟩ | ⟨_, ⟨_, rfl⟩ | ⟨h, _⟩, _, h2⟩
    · exact absurd hok h
    · rw [h2 rfl]; exact ⟨ao, cap, _, rfl, Num.nil, hp⟩
    · exact absurd hw h

theorem passed_add (es : List (Nat × Nat)) (I k : Nat) (h : ¬ R es k I) : passed es I (k + 1) = passed es I k ++ [(k : Int)] := by
  rw [passed, if_neg h]
theorem passed_same (es : List (Nat × Nat)) (I k : Nat) (h : R es k I) : passed es I (k + 1) = passed es I k := by
  rw [passed, if_pos h, List.append_nil]
theorem not_zero (es : List (Nat × Nat)) (I : Nat) : ¬ R es ((0 : Nat) : Int) I := fun h => h (fun _ => False) (by simp) (fun _ _ h => h.elim)
theorem not_self (es : List (Nat × Nat)) (I : Nat) : ¬ R es (I : Int) I := fun h => h.ne rfl
theorem left_take (es : List (Int × Int)) (way : List Int) (k : Nat) (hk : k < es.length) :
    left (es.take (k + 1)) way = left (es.take k) way ++ (if gone way (es.getD k (0, 0)) = true then [] else [es.getD k (0, 0)]) := by
  have e : es.getD k (0, 0) = es[k] := by simp [hk]
  unfold left
  rw [List.take_succ_eq_append_getElem hk, List.filter_append, e]
  cases h : gone way es[k] <;> simp [h]
theorem left_len (es : List (Int × Int)) (way : List Int) : (left es way).length ≤ es.length := List.length_filter_le _ _
theorem goneK_succ (way : List Int) (k : Nat) (e : Int × Int) : goneK way (k + 1) e = (goneK way k e || (decide (way.getD k 0 = e.1) && decide (way.getD (k + 1) 0 = e.2))) := by
  unfold goneK
  rw [List.range_succ, List.any_append]
  simp
theorem eqself (c : Int) : (c == c) = true := by simp
end Go.Proofs.YtobhclmibmpffaaDoor
