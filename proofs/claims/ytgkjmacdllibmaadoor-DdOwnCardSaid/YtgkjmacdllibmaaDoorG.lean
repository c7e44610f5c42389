import Derived.Test.YtgkjmacdllibmaaDoorF
namespace Go.Proofs.YtgkjmacdllibmaaDoor
open Go.RowKit Go.Mine Go.Mine.Dd

theorem fault_makes (h : Int) (ao : Option Addr) (n c : Nat) (lim : Int) (w : World) :
    Calls Tryd.prog 5 #[.int .i64 h, .slice ao n c, .int .i64 lim] w fun e w' => e = .returned (.func (.func 16) #[] #[.pointer (some ⟨w.heap.size, 0, none⟩), .pointer (some ⟨w.heap.size + 1 + 1, 0, none⟩), .pointer (some ⟨w.heap.size + 1, 0, none⟩)]) ∧
      w' = ((w.alloc (.cells #[.int .i64 h] 3)).alloc (.cells #[.slice ao n c] 22)).alloc (.cells #[.int .i64 lim] 3) := by
  go_enter Tryd.func5, Tryd.ntmps5
  go_wp2_with fail
  go_ret
  exact ⟨rfl, rfl⟩
theorem run16 (v x y z : Value) (w : World) : Sem.run Tryd.prog (callFunc 16 (#[v] ++ #[x, y, z])) w = .ok (.enter 16 (#[v] ++ #[x, y, z])) w := by kernel_rfl
theorem run13 (v : Value) (w : World) : Sem.run Tryd.prog (callFunc 13 (#[v] ++ #[])) w = .ok (.enter 13 (#[v] ++ #[])) w := by kernel_rfl

theorem two_in (ao : Option Addr) (c : Nat) (xs : List Int) (w : World) (hx : IntsAt .i64 w ao xs) (hl : xs.length ≤ 12) :
    Calls Tryd.prog 13 #[.slice ao xs.length c] w fun e w' => e = .returned (.bool (decide (2 ∈ xs))) ∧ w = w' := by
  have H := In_any xs 2 ao c w hx (by unfold maxLen; omega)
  go_enter Tryd.func13, Tryd.ntmps13
  go_wp2_with fail
  refine H.mono ?_
  rintro e w' ⟨rfl, rfl⟩
  go_wp2_with fail
  go_ret
  exact ⟨rfl, rfl⟩
theorem fact_least {m : List Int} (h : Least (allIn [2]) [1, 2] m) : m = [2] := by
  have h1 : m.length = 1 := by rw [least_count h (by simp)]; rfl
  have h2 : (2 : Int) ∈ m := (least_need h (by simp) 2).2 ⟨by simp, by simp⟩
  match m, h1, h2 with
  | [x], _, h2 => simp at h2; rw [h2]
theorem allIn_two (xs : List Int) : allIn [2] xs = decide (2 ∈ xs) := by simp [allIn]

theorem least_fact (w : World) : Calls Tryd.prog 6 #[.slice (some ⟨w.heap.size, 0, none⟩) 2 2, .func (.func 13) #[] #[]] (w.alloc (.cells #[.int .i64 1, .int .i64 2] 3)) fun e w' => (∃ ao c, e = .returned (.tuple #[.slice ao 1 c, .nilIface]) ∧ IntsAt .i64 w' ao [2]) ∧ Below w.heap.size w w' := by
  have hb : Below w.heap.size w (w.alloc (.cells #[.int .i64 1, .int .i64 2] 3)) := (Below.refl _ _).alloc (Nat.le_refl _) _
  have hl : IntsAt .i64 (w.alloc (.cells #[.int .i64 1, .int .i64 2] 3)) (some ⟨w.heap.size, 0, none⟩) [1, 2] := by
    intro j hj
    refine ⟨_, 0, rfl, ?_⟩
    match j, hj with
    | 0, _ => simp [go_sem]
    | 1, _ => simp [go_sem]
  refine (min_any 13 #[] (allIn [2]) [1, 2] (some ⟨w.heap.size, 0, none⟩) 2 _ hl (fun h => by cases h) (by unfold maxLen; simp) run13 ?_).mono ?_
  · intro w1 B v xs _ _ hBw ho h12
    obtain ⟨ao, c, rfl⟩ := owns_shape ho
    refine (two_in ao c xs w1 (IntsAt.of_owns ho) h12).mono ?_
    rintro e w' ⟨rfl, rfl⟩
    exact ⟨by rw [allIn_two], Below.refl _ _⟩
  · rintro e w' ⟨hp, hb'⟩
    refine ⟨?_, hb.trans (hb'.mono hb.size)⟩
    rcases hp with ⟨h, _⟩ | ⟨_, h, _⟩ | ⟨_, _, v, m, rfl, hm, _, ho⟩
    · simp at h
    · simp [allIn] at h
    · obtain rfl := fact_least hm
      obtain ⟨ao, c, rfl⟩ := owns_shape ho
      exact ⟨ao, c, rfl, IntsAt.of_owns ho⟩

/-- What Min tells, wholly. -/
def Spec (F : List Int → Bool) (l m : List Int) (x : Value) : Prop :=
  (12 < l.length ∧ m = [] ∧ x = .iface 31 (.int .i64 4)) ∨ (l.length ≤ 12 ∧ F l = false ∧ m = [] ∧ x = .iface 31 (.int .i64 2)) ∨ (l.length ≤ 12 ∧ F l = true ∧ Runs F l 2 m ∧ x = .nilIface)
theorem Spec.one {F : List Int → Bool} {l m m' : List Int} {x x' : Value} (h : Spec F l m x) (h' : Spec F l m' x') : m = m' ∧ x = x' := by
  rcases h with ⟨a, rfl, rfl⟩ | ⟨a, b, rfl, rfl⟩ | ⟨a, b, c, rfl⟩ <;> rcases h' with ⟨a', rfl, rfl⟩ | ⟨a', b', rfl, rfl⟩ | ⟨a', b', c', rfl⟩
  · exact ⟨rfl, rfl⟩
  · omega
  · omega
  · omega
  · exact ⟨rfl, rfl⟩
  · rw [b] at b'; cases b'
  · omega
  · rw [b] at b'; cases b'
  · exact ⟨c.one c', rfl⟩
theorem Spec.told {F : List Int → Bool} {l m : List Int} {x : Value} (h : Spec F l m x) : ∃ c, (x = .nilIface ∧ c = 0) ∨ x = .iface 31 (.int .i64 c) := by
  rcases h with ⟨_, _, rfl⟩ | ⟨_, _, _, rfl⟩ | ⟨_, _, _, rfl⟩
  · exact ⟨4, .inr rfl⟩
  · exact ⟨2, .inr rfl⟩
  · exact ⟨0, .inl ⟨rfl, rfl⟩⟩
theorem min_spec (f : Nat) (cp : Array Value) (F : List Int → Bool) (l : List Int) (lo : Option Addr) (lc : Nat) (W : World) (hx : IntsAt .i64 W lo l) (hn : lo = none → l.length = 0) (hl : l.length ≤ maxLen)
    (hrun : ∀ (v : Value) (w : World), Sem.run Tryd.prog (callFunc f (#[v] ++ cp)) w = .ok (.enter f (#[v] ++ cp)) w)
    (hf : ∀ (w : World) (B : Nat) (v : Value) (xs : List Int), Below W.heap.size W w → W.heap.size ≤ B → B ≤ w.heap.size → w.ownsRow B 3 1 v xs.length (xs.map (Value.int .i64)) → xs.length ≤ 12 →
      Calls Tryd.prog f (#[v] ++ cp) w fun e w' => e = .returned (.bool (F xs)) ∧ Below B w w') :
    Calls Tryd.prog 6 #[.slice lo l.length lc, .func (.func f) #[] cp] W fun e w' => (∃ ao c m x, e = .returned (.tuple #[.slice ao m.length c, x]) ∧ Spec F l m x ∧ IntsAt .i64 w' ao m ∧ m.length ≤ 12) ∧ Below W.heap.size W w' := by
  refine (min_any f cp F l lo lc W hx hn hl hrun hf).mono ?_
  rintro e w' ⟨hp, hb'⟩
  refine ⟨?_, hb'⟩
  rcases hp with ⟨h, rfl⟩ | ⟨h, h2, rfl⟩ | ⟨h12, hFl, v, m, rfl, hm, hr, ho⟩
  · exact ⟨none, 0, [], _, rfl, .inl ⟨h, rfl, rfl⟩, IntsAt.nil _ _ _, by simp⟩
  · exact ⟨none, 0, [], _, rfl, .inr (.inl ⟨h, h2, rfl, rfl⟩), IntsAt.nil _ _ _, by simp⟩
  · obtain ⟨ao, c, rfl⟩ := owns_shape ho
    exact ⟨ao, c, m, _, rfl, .inr (.inr ⟨h12, hFl, hr, rfl⟩), IntsAt.of_owns ho, Nat.le_trans hm.some_of.length_le h12⟩

set_option maxHeartbeats 400000 in
/-- Who writes into what he is asked of. -/
theorem spoil (F : List Int → Bool) (cp : Array Value) (x : Int) (bf bx : Nat) (B : Nat) (ao : Option Addr) (c : Nat) (xs : List Int) (w : World) (p1 p2 p3 : Value) (hcp : cp = #[p1, p2, p3])
    (hf : w.cell? ⟨bf, 0, none⟩ = some (.func (.func 16) #[] cp)) (hx : w.cell? ⟨bx, 0, none⟩ = some (.int .i64 x)) (hbx : bx < B) (ho : w.ownsRow B 3 1 (.slice ao xs.length c) xs.length (xs.map (Value.int .i64))) (hl : xs.length ≤ 12) (hB : B ≤ w.heap.size)
    (hF : Calls Tryd.prog 16 #[.slice ao xs.length c, p1, p2, p3] w fun e w' => e = .returned (.bool (F xs)) ∧ w = w') :
    Calls Tryd.prog 12 #[.slice ao xs.length c, .pointer (some ⟨bf, 0, none⟩), .pointer (some ⟨bx, 0, none⟩)] w fun e w' => e = .returned (.bool (F xs)) ∧ Below B w w' := by
  subst hcp
  have HO := Lib.hid ho
  have HX := Lib.hid hx
  obtain ⟨d, hd⟩ : ∃ d, d = F xs := ⟨_, rfl⟩
  rw [← hd] at hF ⊢
  clear ho hd
  go_enter Tryd.func12, Tryd.ntmps12
  go_wp2_with fail
  refine hF.mono ?_
  rintro e w' ⟨rfl, rfl⟩
  clear hF
  go_wp2_with fail
  go_loopw [6] (fun i wr => ∃ (k : Nat) (vs : List Value), i = .int .i64 k ∧ k ≤ xs.length ∧ wr.ownsRow B 3 1 (.slice ao xs.length c) xs.length vs ∧ Below B w wr) (fun i _ => xs.length - (intOf i).toNat)
  case atStart => exact ⟨0, _, rfl, by omega, HO.out, Below.refl _ _⟩
  case round =>
    obtain ⟨k, vs, rfl, hk, hown, hb⟩ := hrel
    by_cases hlt : k < xs.length
    · obtain ⟨g, rfl⟩ : ∃ g, ao = some ⟨g, 0, none⟩ := by
        rcases hown.2 with ⟨h1, h0⟩ | ⟨g, _, _, h1, _⟩
        · omega
        · simp only [Value.slice.injEq] at h1; exact ⟨g, h1.1⟩
      have hvl := hown.1
      have hc : wr.cell? ⟨g, k, none⟩ = some (vs.getD k (.bool false)) := by
        rw [hown.cellAt k (by omega)]
        simp [show k < vs.length by omega]
      have hfz := hown.frozenAt k
      have hxr := (hb.cell (p := ⟨bx, 0, none⟩) hbx).trans HX.out
      have hst := hown.stored k (.int .i64 x)
      have hg := (hown.lt g rfl).1
      have hb2 := Lib.hid (hb.setCell (p := ⟨g, k, none⟩) hg (.int .i64 x))
      have HST := Lib.hid hst.1
      obtain ⟨u, hu⟩ : ∃ u, u = vs.getD k (.bool false) := ⟨_, rfl⟩
      rw [← hu] at hc
      clear hst hu hown hvl
      go_wp2_with fail
      go_roundw
      case rel => exact ⟨k + 1, _, by go_num, by omega, HST.out, hb2.out⟩
      case measure => simp [intOf]; omega
    · have hke : k = xs.length := by omega
      subst hke
      go_wp2_with fail
      go_ret
      exact ⟨rfl, hb⟩
theorem run12 (v x y : Value) (w : World) : Sem.run Tryd.prog (callFunc 12 (#[v] ++ #[x, y])) w = .ok (.enter 12 (#[v] ++ #[x, y])) w := by kernel_rfl
end Go.Proofs.YtgkjmacdllibmaaDoor
