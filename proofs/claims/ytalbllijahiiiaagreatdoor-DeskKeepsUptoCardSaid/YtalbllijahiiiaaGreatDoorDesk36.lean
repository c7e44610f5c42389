/- strings.SplitSeq: the function that it hands back; a range over a function, entered and left; one round. -/
import Derived.Test.YtalbllijahiiiaaGreatDoorDesk25
import Derived.RangeFuncNested
import Derived.RangeFuncCalls
import Derived.RangeFuncLeaves
import Derived.Shelf.Abstract
import Derived.OwnWalkIn
import Derived.TacticsInMore
import Derived.LoopNIn
import Derived.LoopIn
namespace Go.Proofs.YtalbllijahiiiaaGreatDoor
open Go.RowKit Go.Mine Go.Mine.Desk

set_option maxHeartbeats 1000000 in
theorem splitSeq_any (s sep : Bytes) (w : World) : Calls Tryz.prog 139 #[str s, str sep, .int .i64 0] w fun e w' =>
    e = .returned (.func (.func 160) #[] #[.pointer (some ⟨w.heap.size + 1, 0, none⟩), .pointer (some ⟨w.heap.size, 0, none⟩), .pointer (some ⟨w.heap.size + 1 + 1, 0, none⟩)]) ∧
    w' = ((w.alloc (.cells #[str s] 9)).alloc (.cells #[str sep] 9)).alloc (.cells #[.int .i64 0] 3) := by
  have hmf : ∀ (fn : Fn) (first cap : Array Value) (w : World), (Instr.makeFunc fn first cap).run Tryz.prog w = .ok (.func fn first cap) w := fun _ _ _ _ => rfl
  go_enter Tryz.func139, Tryz.ntmps139
  go_wp2_with fail
  go_ret
  exact ⟨rfl, rfl⟩
set_option maxHeartbeats 1000000 in
theorem SplitSeq_any (s sep : Bytes) (w : World) : Calls Tryz.prog 114 #[str s, str sep] w fun e w' =>
    e = .returned (.func (.func 160) #[] #[.pointer (some ⟨w.heap.size + 1, 0, none⟩), .pointer (some ⟨w.heap.size, 0, none⟩), .pointer (some ⟨w.heap.size + 1 + 1, 0, none⟩)]) ∧
    w' = ((w.alloc (.cells #[str s] 9)).alloc (.cells #[str sep] 9)).alloc (.cells #[.int .i64 0] 3) := by
  have HC := Lib.hid (splitSeq_any s sep w)
  go_enter Tryz.func114, Tryz.ntmps114
  go_wp2_with fail
  refine HC.out.mono ?_
  rintro e w1 ⟨rfl, hw1⟩
  have HW := Lib.hid hw1
  clear hw1
  go_wp2_with fail
  go_ret
  exact ⟨rfl, HW.out⟩

/-- How a range over a function is left: the record is not busy; on behind the loop, or the pending jump. -/
def LoopEnd (P : Program) (Q : Exit → Act → World → Prop) (a : Act) (l : Nat) (w' : World) : Prop :=
  ∃ r : Loop, w'.heap[l]? = some (.loop r) ∧ r.state ≠ .busy ∧ ∀ w2, w2 = w'.putObj l (.loop { r with state := .exhausted }) → match r.pending with
    | none => Q .normal a w2
    | some c => c.wp P Q a w2
/-- A range over a function of one's own: where its call ends with the record not busy. -/
theorem range_call {P : Program} {g : Operand} {ps : Array Tmp} {assign body : Code} {Q : Exit → Act → World → Prop} {a : Act} {w : World} {gf : Nat} {lb : Array Value}
    (hg : a.eval g = .func (.func gf) #[] lb) (eg : ∀ args w, (callFunc gf args).run P w = .ok (.enter gf args) w)
    (h : ∀ r : Loop, r.state = .ready → r.pending = none → r.tmps = a.tmps → r.params = ps → r.assign = assign → r.body = body → Calls P gf (#[.func (.yield (w.heap.size + 1)) #[] #[]] ++ lb) ((w.alloc (.deferred (some []))).alloc (.loop r))
      fun e w' => (∃ v, e = .returned v) ∧ LoopEnd P Q { a with defers := { target := .collected w.heap.size, args := #[] } :: a.defers } (w.heap.size + 1) w') :
    (Code.rangeFunc g ps assign body).wp P Q a w := by
  refine (wpIn_wide (n := 1)).1 (wpIn_rangeFunc ?_)
  intro fn _
  have hc := h { state := .ready, pending := none, fn := fn, tmps := a.tmps, params := ps, assign := assign, body := body, defers := w.heap.size } rfl rfl rfl rfl rfl rfl
  obtain ⟨W1, hW1⟩ : ∃ W1, (w.alloc (.deferred (some []))).alloc (.loop { state := .ready, pending := none, fn := fn, tmps := a.tmps, params := ps, assign := assign, body := body, defers := w.heap.size }) = W1 := ⟨_, rfl⟩
  rw [hW1] at hc
  refine ⟨w.heap.size + 1, [{ target := .collected w.heap.size, args := #[] }], W1, { target := .fn (.func gf) lb, args := #[.func (.yield (w.heap.size + 1)) #[] #[]] }, W1, gf,
    #[.func (.yield (w.heap.size + 1)) #[] #[]] ++ lb, W1, ?_, ?_, ?_, ?_, ?_, ?_⟩
  · rw [← hW1]; exact run_enterLoop_outer _ _ _ _ _
  · simp only [resolve, hg]
    simp [go_sem]
  · intro f' _; trivial
  · simp [invoke, go_sem, eg]
  · intro _; exact Nat.le_refl _
  · refine callsIn_wide.2 (hc.mono ?_)
    rintro e w' ⟨⟨v, rfl⟩, r, hr, hb, hj⟩
    refine ⟨r.pending, _, run_endLoop hr hb, ?_⟩
    obtain ⟨w2, hw2⟩ : ∃ w2, w2 = w'.putObj (w.heap.size + 1) (.loop { r with state := .exhausted }) := ⟨_, rfl⟩
    have hj2 := hj w2 hw2
    rw [← hw2]
    cases hp : r.pending with
    | none => rw [hp] at hj2; exact hj2
    | some c => rw [hp] at hj2; exact wpIn_wide.2 hj2
/-- How a round's body is left: off its end, or by a jump. -/
def roundEnd (l : Nat) (R : Value → World → Prop) : Exit → Act → World → Prop
  | .normal, _, w => ∃ x, w.heap[l]? = some (.loop x) ∧ R (.bool true) (w.putObj l (.loop { x with state := .ready, pending := none }))
  | .ret, _, w => ∃ x, w.heap[l]? = some (.loop x) ∧ R (.bool false) (w.putObj l (.loop { x with state := .done, pending := some .ret }))
  | .exit id, _, w => ∃ x, w.heap[l]? = some (.loop x) ∧ R (.bool false) (w.putObj l (.loop { x with state := .done, pending := some (.exit id) }))
  | _, _, _ => False
/-- One round. -/
theorem round_call {P : Program} {l : Nat} {r : Loop} {args : Array Value} {w : World} {R : Value → World → Prop} {a : Act} (h : w.heap[l]? = some (.loop r)) (hs : args.size = r.params.size) (hr : r.state = .ready)
    (hassign : ∀ K : Act → World → Prop, K a w → r.assign.wpIn (Fence.wide.inRound l) 1 P (Exit.then K (fun _ _ _ => False)) { tmps := (r.params.zip args).foldl (fun t (p, v) => t.setIfInBounds p v) r.tmps, defers := [] } w)
    (hbody : r.body.wpIn (Fence.wide.inRound l) 1 P (roundEnd l R) a (w.putObj l (.loop { r with state := .busy }))) :
    YieldAt Fence.wide 1 P l args w fun e w' => ∃ v, e = .returned v ∧ R v w' := by
  refine ⟨r.fn, _, r.assign, r.body, run_yield h hs, roundIn_of_wpIn trivial (hassign _ ⟨_, run_beginRound h hr, wpIn_mono hbody ?_⟩)⟩
  rintro e a' w' hp
  cases e with
  | normal => obtain ⟨x, hx, hR⟩ := hp; exact ⟨_, _, run_endRound none hx, _, rfl, hR⟩
  | ret => obtain ⟨x, hx, hR⟩ := hp; exact ⟨_, _, run_endRound (some .ret) hx, _, rfl, hR⟩
  | exit id => obtain ⟨x, hx, hR⟩ := hp; exact ⟨_, _, run_endRound (some (.exit id)) hx, _, rfl, hR⟩
  | goto t => exact hp.elim
  | panic ch => exact hp.elim
  | outgrown => exact hp.elim
end Go.Proofs.YtalbllijahiiiaaGreatDoor
