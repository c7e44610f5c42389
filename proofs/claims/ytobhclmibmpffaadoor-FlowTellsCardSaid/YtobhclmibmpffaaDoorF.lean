import Derived.Test.YtobhclmibmpffaaDoorE
import Derived.Test.YtobhclmibmpffaaDoorSInts
namespace Go.Proofs.YtobhclmibmpffaaDoor
open Go.RowKit Go.Mine Go.Mine.Flow

/-- What Reach answers, whatever the edges. -/
def ReachAny (n : Int) (es : List (Int × Int)) (e : Ending) (w' : World) : Prop :=
  (ok n es ∧ ReachPost n.toNat es e w') ∨ (¬ ok n es ∧ e = .returned (.tuple #[.slice none 0 0, .iface 25 (.int .i64 (efault n es))]))
def OverAny (n : Int) (es : List (Int × Int)) (i : Int) (e : Ending) (w' : World) : Prop :=
  (ok n es ∧ OverPost n.toNat es i e w') ∨ (¬ ok n es ∧ e = .returned (.tuple #[.slice none 0 0, .iface 25 (.int .i64 (efault n es))]))

set_option maxHeartbeats 400000 in
theorem reach_any (n : Int) (es : List (Int × Int)) (lo : Option Addr) (lc : Nat) (W : World) (hx : PairsAt W lo es) (hl : es.length ≤ maxLen) :
    Calls Tryd.prog 10 #[.int .i64 n, .slice lo es.length lc] W fun e w' => ReachAny n es e w' ∧ Below W.heap.size W w' := by
  by_cases hok : ok n es
  · obtain ⟨N, rfl⟩ := Int.eq_ofNat_of_zero_le (show 0 ≤ n by have := hok.1; omega)
    exact (reach_ok N es lo lc W hx hok).mono fun e w' h => ⟨.inl ⟨hok, by simpa using h.1⟩, h.2⟩
  · have HCK := Lib.hid (check_any n es lo lc W hx hl)
    have HOK := Lib.hid hok
    clear hok hx
    go_enter Tryd.func10, Tryd.ntmps10
    go_wp2_with fail
    refine HCK.out.mono ?_
    rintro e w1 ⟨hp, hb1⟩
    rcases hp with ⟨h, _⟩ | ⟨_, rfl⟩
    · exact absurd h HOK.out
    · go_wp2_with fail
      go_ret2
      exact ⟨.inr ⟨HOK.out, rfl⟩, hb1⟩

set_option maxHeartbeats 400000 in
theorem over_any (n : Int) (es : List (Int × Int)) (i : Int) (lo : Option Addr) (lc : Nat) (W : World) (hx : PairsAt W lo es) (hl : es.length ≤ maxLen) :
    Calls Tryd.prog 12 #[.int .i64 n, .slice lo es.length lc, .int .i64 i] W fun e w' => OverAny n es i e w' ∧ Below W.heap.size W w' := by
  by_cases hok : ok n es
  · obtain ⟨N, rfl⟩ := Int.eq_ofNat_of_zero_le (show 0 ≤ n by have := hok.1; omega)
    exact (over_ok N es i lo lc W hx hok).mono fun e w' h => ⟨.inl ⟨hok, by simpa using h.1⟩, h.2⟩
  · have HCK := Lib.hid (check_any n es lo lc W hx hl)
    have HOK := Lib.hid hok
    clear hok hx
    go_enter Tryd.func12, Tryd.ntmps12
    go_wp2_with fail
    refine HCK.out.mono ?_
    rintro e w1 ⟨hp, hb1⟩
    rcases hp with ⟨h, _⟩ | ⟨_, rfl⟩
    · exact absurd h HOK.out
    · go_wp2_with fail
      go_ret2
      exact ⟨.inr ⟨HOK.out, rfl⟩, hb1⟩

/-- 0 to 1 to 2: of 2 all three are passed. -/
theorem fact_passed : passed (nat [(0, 1), (1, 2)]) 2 3 = [0, 1, 2] := by
  have h0 : ¬ R (nat [(0, 1), (1, 2)]) (0 : Int) 2 := fun h => h (fun _ => False) (by simp) (fun _ _ h => h.elim)
  have h1 : ¬ R (nat [(0, 1), (1, 2)]) (1 : Int) 2 := fun h => by
    have := h (fun v => v = 0) (fun _ => rfl) (fun u w hu he hw => by
      subst hu
      simp [nat] at he
      omega)
    omega
  have h2 : ¬ R (nat [(0, 1), (1, 2)]) (2 : Int) 2 := fun h => h.ne (by simp)
  simp [passed, h0, h1, h2]
theorem fact_reach : R (nat [(0, 1), (1, 2)]) (-1) 2 :=
  ((R.start (by omega)).step (w := 1) (by simp [nat]) (by omega)).step (w := 2) (by simp [nat]) (by omega)

set_option maxHeartbeats 400000 in
theorem flowed_true (W : World) : Calls Tryd.prog 4 #[] W fun e w' => e = .returned (.bool true) ∧ Below W.heap.size W w' := by
  have hb1 : Below W.heap.size W (W.alloc (.cells #[.int .i64 0, .int .i64 1, .int .i64 1, .int .i64 2] 35)) := (Below.refl _ _).alloc (Nat.le_refl _) _
  have hp : PairsAt (W.alloc (.cells #[.int .i64 0, .int .i64 1, .int .i64 1, .int .i64 2] 35)) (some ⟨W.heap.size, 0, none⟩) [(0, 1), (1, 2)] := by
    intro j hj
    refine ⟨_, 0, rfl, ?_⟩
    match j, hj with
    | 0, _ => simp [go_sem]
    | 1, _ => simp [go_sem]
  have HOV := Lib.hid (over_any 3 [(0, 1), (1, 2)] 2 _ 2 _ hp (by unfold maxLen; simp))
  have hok : ok 3 [(0, 1), (1, 2)] := ⟨by omega, by omega, by simp, by simp⟩
  have HOK := Lib.hid hok
  clear hp hok
  go_enter Tryd.func4, Tryd.ntmps4
  go_wp2_with fail
  refine HOV.out.mono ?_
  rintro e w2 ⟨hp, hb2⟩
  rcases hp with ⟨_, hp⟩ | ⟨h, _⟩
  · rcases hp with ⟨h, _⟩ | ⟨_, h, _⟩ | ⟨_, ao, cap, zs, rfl, hz, _, hzs⟩
    · exact absurd ⟨by omega, by omega⟩ h
    · exact absurd fact_reach h
    · rw [show (3 : Int).toNat = 3 from rfl, show (2 : Int).toNat = 2 from rfl, fact_passed] at hzs
      subst hzs
      have hb3 : Below W.heap.size W w2 := hb1.trans (hb2.mono (by simp))
      have hsz := hb3.size
      have hb4 := hb3.alloc hsz (.cells #[.int .i64 0, .int .i64 1, .int .i64 2] 3)
      have hl : IntsAt .i64 (w2.alloc (.cells #[.int .i64 0, .int .i64 1, .int .i64 2] 3)) (some ⟨w2.heap.size, 0, none⟩) [0, 1, 2] := by
        intro j hj
        refine ⟨_, 0, rfl, ?_⟩
        match j, hj with
        | 0, _ => simp [go_sem]
        | 1, _ => simp [go_sem]
        | 2, _ => simp [go_sem]
      have HI := Lib.hid (Ints_any [0, 1, 2] [0, 1, 2] ao (some ⟨w2.heap.size, 0, none⟩) cap 3 _ (hz.below (Nat.le_refl _) ((Below.refl _ _).alloc (Nat.le_refl _) _)) hl (by unfold maxLen; simp))
      have HB4 := Lib.hid hb4
      clear hb1 hb2 hb3 hb4 hl hz
      go_wp2_with fail
      refine HI.out.mono ?_
      rintro e w3 ⟨rfl, nd, rfl⟩
      go_wp2_with fail
      go_ret
      exact ⟨rfl, below_drewN HB4.out _⟩
  · exact absurd HOK.out h
end Go.Proofs.YtobhclmibmpffaaDoor
