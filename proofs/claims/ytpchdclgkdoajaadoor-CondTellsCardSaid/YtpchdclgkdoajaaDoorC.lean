/- assayerref2.CondFault, So, PairOf. -/
import Derived.Test.YtpchdclgkdoajaaDoorCond5
import Derived.Test.YtpchdclgkdoajaaDoorQIn
import Derived.Test.YtpchdclgkdoajaaDoorA
namespace Go.Proofs.YtpchdclgkdoajaaDoor
open Go.RowKit Go.Mine Go.Mine.Cond

theorem so_bit : ∀ i, i < 6 → ∀ t, t < 64 → ((((t : Nat) : Int) / 2 ^ i).tmod 2 == 1) = t.testBit i := by decide +kernel
theorem so_any (t i : Nat) (ht : t < 64) (hi : i < 6) (w : World) : Calls Tryd.prog 18 #[.int .i64 t, .int .i64 i] w fun e w' => e = .returned (.bool (t.testBit i)) ∧ w = w' := by
  have hs := so_bit i hi t ht
  go_enter Tryd.func18, Tryd.ntmps18
  go_wp2_with fail
  go_ret
  exact ⟨by simp [hs], rfl⟩

theorem condFault_any (n : Int) (fo : Option Addr) (len fc : Nat) (W : World) :
    Calls Tryd.prog 9 #[.int .i64 n, .slice fo len fc] W fun e w' => e = .returned (.int .i64 (cfault n len)) ∧ W = w' := by
  by_cases h1 : n < 1
  · have hf : cfault n len = 1 := by unfold cfault; rw [if_pos (.inl h1)]
    rw [hf]
    clear hf
    go_enter Tryd.func9, Tryd.ntmps9
    go_wp2_with fail
    go_ret
    exact ⟨rfl, rfl⟩
  · by_cases h2 : 6 < n
    · have hf : cfault n len = 1 := by unfold cfault; rw [if_pos (.inr h2)]
      rw [hf]
      clear hf
      go_enter Tryd.func9, Tryd.ntmps9
      go_wp2_with fail
      go_ret
      exact ⟨rfl, rfl⟩
    · obtain ⟨m, rfl⟩ : ∃ m : Nat, n = m := ⟨n.toNat, by omega⟩
      have hp := pow_wrap m (by omega)
      by_cases h3 : len = 2 ^ m
      · have hok : cok m len := ⟨m, rfl, by omega, by omega, h3⟩
        rw [cfault_ok hok]
        rw [← h3] at hp
        clear h3 hok
        have hb : ((len : Int) != (len : Int)) = false := by simp
        go_enter Tryd.func9, Tryd.ntmps9
        go_wp2_with fail
        go_ret
        exact ⟨rfl, rfl⟩
      · have hf : cfault m len = 3 := by unfold cfault; rw [if_neg (by omega), if_neg (by simpa using h3)]
        rw [hf]
        clear hf
        obtain ⟨B, hB⟩ : ∃ B, B = 2 ^ m := ⟨_, rfl⟩
        rw [← hB] at hp h3
        have hb : ((len : Int) != (B : Int)) = true := by rw [bne_iff_ne]; omega
        clear hB
        go_enter Tryd.func9, Tryd.ntmps9
        go_wp2_with fail
        go_ret
        exact ⟨rfl, rfl⟩

/-- What PairOf tells. -/
def PairOfPost (fs : List Bool) (i : Nat) (e : Ending) : Prop := (¬ Mat fs i ∧ e = .returned (.int .i64 (-1))) ∨ ∃ t : Nat, First fs i t ∧ e = .returned (.int .i64 t)
set_option maxHeartbeats 1000000 in
theorem pairOf_any (n i : Nat) (fs : List Bool) (fo : Option Addr) (fc : Nat) (W : World) (hf : BoolsAt W fo fs) (hl : fs.length = 2 ^ n) (hn : n ≤ 6) (hi : i < n) :
    Calls Tryd.prog 12 #[.slice fo fs.length fc, .int .i64 i] W fun e w' => PairOfPost fs i e ∧ ∃ q, w' = W.drewN q := by
  have hp := pow_wrap i (by omega)
  have hlp := pow_le hn
  rw [← hl] at hlp
  have HSET := Lib.hid (set_lt n (by omega) i hi)
  rw [← hl] at HSET
  have hlen0 : 0 < fs.length := by rw [hl]; exact Nat.two_pow_pos n
  obtain ⟨b, o, rfl, hcell⟩ := hf.plain hlen0
  have HCELL := Lib.hid hcell
  have HPR := Lib.hid (show ∀ t, pr fs i t = (!t.testBit i && (at' fs t != at' fs (t + 2 ^ i))) from fun _ => rfl)
  obtain ⟨B, hB⟩ : ∃ B, B = 2 ^ i := ⟨_, rfl⟩
  rw [← hB] at hp HSET HPR
  have hB64 : B ≤ 64 := by rw [hB]; exact pow_le (by omega)
  clear hB hcell hf hl
  go_enter Tryd.func12, Tryd.ntmps12
  go_wp2_with fail
  go_loopw [5] (fun tv wr => ∃ t q : Nat, tv = .int .i64 t ∧ t ≤ fs.length ∧ RowKit.Hid (∀ s, s < t → pr fs i s = false) ∧ wr = W.drewN q) (fun tv _ => fs.length - (intOf tv).toNat)
  case atStart => exact ⟨0, 0, rfl, by omega, Lib.hid (fun s hs => by omega), (drewN_zero W).symm⟩
  case round =>
    obtain ⟨t, q, rfl, ht, hall, rfl⟩ := hrel
    by_cases hlt : t < fs.length
    · have HSO := Lib.hid (fun q => so_any t i (by omega) (by omega) (W.drewN q))
      have hprt := HPR.out t
      have hfirst : pr fs i t = true → First fs i t := fun h => ⟨hlt, h, hall.out⟩
      have hnext : pr fs i t = false → ∀ s, s < t + 1 → pr fs i s = false := fun h s hs => by
        by_cases e : s = t
        · subst e; exact h
        · exact hall.out s (by omega)
      have HFI := Lib.hid hfirst
      have HNX := Lib.hid hnext
      have HPT := Lib.hid hprt
      clear hfirst hnext hprt
      cases hbit : t.testBit i with
      | true =>
        have HSB := Lib.hid (show ∀ n, Calls Tryd.prog 18 #[.int .i64 t, .int .i64 i] (W.drewN (q + n)) (fun e w' => e = .returned (.bool true) ∧ ∃ m, w' = W.drewN (q + m)) from fun n => (so_any t i (by omega) (by omega) _).mono fun e w' h => ⟨by rw [h.1, hbit], n, h.2.symm⟩)
        have HN := Lib.hid (HNX.out (by rw [HPT.out, hbit]; rfl))
        clear hbit HSO
        go_wp2_with fail
        go_quiet (first | (go_at_call 18; exact HSB.out _))
        go_wp2_with fail
        go_roundw
        case rel => exact ⟨t + 1, _, by go_num, by omega, HN, rfl⟩
        case measure => simp [intOf]; omega
      | false =>
        have HSB := Lib.hid (show ∀ n, Calls Tryd.prog 18 #[.int .i64 t, .int .i64 i] (W.drewN (q + n)) (fun e w' => e = .returned (.bool false) ∧ ∃ m, w' = W.drewN (q + m)) from fun n => (so_any t i (by omega) (by omega) _).mono fun e w' h => ⟨by rw [h.1, hbit], n, h.2.symm⟩)
        have hsl := (HSET.out t hlt hbit).1
        have hc1 := HCELL.out t hlt
        have hc2 := HCELL.out (t + B) hsl
        have hprt := HPT.out
        rw [hbit] at hprt
        simp only [Bool.not_false, Bool.true_and] at hprt
        have e1 : fs.getD t false = at' fs t := rfl
        have e2 : fs.getD (t + B) false = at' fs (t + B) := rfl
        rw [e1] at hc1
        rw [e2] at hc2
        obtain ⟨x, hx⟩ : ∃ x, x = at' fs t := ⟨_, rfl⟩
        obtain ⟨y, hy⟩ : ∃ y, y = at' fs (t + B) := ⟨_, rfl⟩
        rw [← hx] at hc1 hprt
        rw [← hy] at hc2 hprt
        obtain ⟨u, hu⟩ : ∃ u, u = t + B := ⟨_, rfl⟩
        have hui : (t : Int) + (B : Int) = (u : Int) := by omega
        rw [← hu] at hsl hc2
        clear e1 e2 hx hy hu hbit HSO
        by_cases hxy : x = y
        · subst hxy
          have hne : (x != x) = false := by simp
          have HN := Lib.hid (HNX.out (by rw [hprt]; exact hne))
          clear hprt
          go_wp2_with fail
          go_quiet (first | (go_at_call 18; exact HSB.out _))
          go_wp2_with fail
          go_roundw
          case rel => exact ⟨t + 1, _, by go_num, by omega, HN, rfl⟩
          case measure => simp [intOf]; omega
        · have hne : (x != y) = true := by simpa using hxy
          have HF := Lib.hid (HFI.out (by rw [hprt]; exact hne))
          obtain rfl : y = !x := by cases x <;> cases y <;> simp_all
          clear hprt hne hxy
          cases x
          all_goals
            go_wp2_with fail
            go_quiet (first | (go_at_call 18; exact HSB.out _))
            go_wp2_with fail
            go_ret
            exact ⟨.inr ⟨t, HF.out, rfl⟩, _, drewN_drewN _ _ _⟩
    · have hte : t = fs.length := by omega
      subst hte
      have HNO := Lib.hid (show ¬ Mat fs i from fun ⟨s, hs, h⟩ => by rw [hall.out s hs] at h; cases h)
      clear hall
      go_wp2_with fail
      go_ret
      exact ⟨.inl ⟨HNO.out, rfl⟩, _, rfl⟩
end Go.Proofs.YtpchdclgkdoajaaDoor
