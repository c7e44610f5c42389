/- cond.Check, Pair, Matters. No conditions. -/
import Derived.Test.YtpmfpegjkfnnkaaRows
import Derived.Test.YtpmfpegjkfnnkaaCondP
import Derived.Deep.QuietTactic
import Derived.BigQuiet
import Derived.OwnWalk
namespace Go.Proofs.Ytpmfpegjkfnnkaa
open Go.RowKit Go.Mine Go.Mine.Cond

theorem ccheck_any (n : Int) (fo : Option Addr) (len fc : Nat) (W : World) :
    Calls Try.prog 14 #[.int .i64 n, .slice fo len fc] W fun e w' => ((cok n len ∧ e = .returned .nilIface) ∨ (¬ cok n len ∧ e = .returned (.iface 42 (.int .i64 (cfault n len))))) ∧ W = w' := by
  by_cases h1 : n < 1
  · have hf : cfault n len = 1 := by unfold cfault; rw [if_pos (.inl h1)]
    have hno : ¬ cok n len := by rintro ⟨m, rfl, h, _⟩; omega
    rw [hf]
    have HNO := Lib.hid hno; clear hno hf
    go_enter Try.func14, Try.ntmps14
    go_wp2_with fail
    go_ret
    exact ⟨.inr ⟨HNO.out, rfl⟩, rfl⟩
  · by_cases h2 : 6 < n
    · have hf : cfault n len = 1 := by unfold cfault; rw [if_pos (.inr h2)]
      have hno : ¬ cok n len := by rintro ⟨m, rfl, _, h, _⟩; omega
      rw [hf]
      have HNO := Lib.hid hno; clear hno hf
      go_enter Try.func14, Try.ntmps14
      go_wp2_with fail
      go_ret
      exact ⟨.inr ⟨HNO.out, rfl⟩, rfl⟩
    · obtain ⟨m, rfl⟩ : ∃ m : Nat, n = m := ⟨n.toNat, by omega⟩
      have hp := pow_wrap m (by omega)
      by_cases h3 : len = 2 ^ m
      · have hok : cok m len := ⟨m, rfl, by omega, by omega, h3⟩
        have HOK := Lib.hid hok; clear hok
        rw [← h3] at hp
        clear h3
        have hb : ((len : Int) != (len : Int)) = false := by simp
        go_enter Try.func14, Try.ntmps14
        go_wp2_with fail
        go_ret
        exact ⟨.inl ⟨HOK.out, rfl⟩, rfl⟩
      · have hno : ¬ cok m len := by rintro ⟨k, hk, _, _, h⟩; exact h3 (by rw [h]; congr 1; omega)
        have hf : cfault m len = 3 := by unfold cfault; rw [if_neg (by omega), if_neg (by simpa using h3)]
        rw [hf]
        have HNO := Lib.hid hno; clear hno hf
        obtain ⟨B, hB⟩ : ∃ B, B = 2 ^ m := ⟨_, rfl⟩
        rw [← hB] at hp h3
        have hb : ((len : Int) != (B : Int)) = true := by rw [bne_iff_ne]; omega
        clear hB
        go_enter Try.func14, Try.ntmps14
        go_wp2_with fail
        go_ret
        exact ⟨.inr ⟨HNO.out, rfl⟩, rfl⟩

/-- What Pair tells. -/
def PairPost (n : Int) (fs : List Bool) (i : Int) (e : Ending) : Prop :=
  (¬ cok n fs.length ∧ e = .returned (.tuple #[.int .i64 0, .int .i64 0, .iface 42 (.int .i64 (cfault n fs.length))])) ∨
  (cok n fs.length ∧ ¬ (0 ≤ i ∧ i < n) ∧ e = .returned (.tuple #[.int .i64 0, .int .i64 0, .iface 42 (.int .i64 1)])) ∨
  (cok n fs.length ∧ (0 ≤ i ∧ i < n) ∧ ¬ Mat fs i.toNat ∧ e = .returned (.tuple #[.int .i64 0, .int .i64 0, .iface 42 (.int .i64 2)])) ∨
  (cok n fs.length ∧ (0 ≤ i ∧ i < n) ∧ ∃ t : Nat, First fs i.toNat t ∧ e = .returned (.tuple #[.int .i64 t, .int .i64 ((t + 2 ^ i.toNat : Nat) : Int), .nilIface]))

set_option maxHeartbeats 1000000 in
theorem pair_any (n i : Int) (fs : List Bool) (fo : Option Addr) (fc : Nat) (W : World) (hf : BoolsAt W fo fs) :
    Calls Try.prog 15 #[.int .i64 n, .slice fo fs.length fc, .int .i64 i] W fun e w' => PairPost n fs i e ∧ ∃ q, w' = W.drewN q := by
  have HC := Lib.hid (ccheck_any n fo fs.length fc W)
  by_cases hok : cok n fs.length
  · have HOK := Lib.hid hok
    by_cases hi0 : i < 0
    · go_enter Try.func15, Try.ntmps15
      go_wp2_with fail
      refine HC.out.mono ?_
      rintro e w' ⟨⟨_, rfl⟩ | ⟨h, _⟩, rfl⟩
      · go_wp2_with fail
        go_ret3
        exact ⟨.inr (.inl ⟨HOK.out, by omega, rfl⟩), 0, rfl⟩
      · exact absurd HOK.out h
    · by_cases hin : n ≤ i
      · go_enter Try.func15, Try.ntmps15
        go_wp2_with fail
        refine HC.out.mono ?_
        rintro e w' ⟨⟨_, rfl⟩ | ⟨h, _⟩, rfl⟩
        · go_wp2_with fail
          go_ret3
          exact ⟨.inr (.inl ⟨HOK.out, by omega, rfl⟩), 0, rfl⟩
        · exact absurd HOK.out h
      · obtain ⟨m, rfl, hm1, hm6, hl⟩ := hok
        obtain ⟨k, rfl⟩ : ∃ k : Nat, i = k := ⟨i.toNat, by omega⟩
        have hkm : k < m := by omega
        have hp := pow_wrap k (by omega)
        have hlp := pow_le hm6
        rw [← hl] at hlp
        have hpos : 0 < 2 ^ k := Nat.two_pow_pos k
        have HAND := Lib.hid (and_bit k (by omega))
        have HOR := Lib.hid (or_bit k (by omega))
        have HSET := Lib.hid (set_lt m (by omega) k hkm)
        have hlen0 : 0 < fs.length := by rw [hl]; exact Nat.two_pow_pos m
        obtain ⟨b, o, rfl, hcell⟩ := hf.plain hlen0
        have HCELL := Lib.hid hcell
        have HPR := Lib.hid (show ∀ t, pr fs k t = (!t.testBit k && (at' fs t != at' fs (t + 2 ^ k))) from fun _ => rfl)
        rw [← hl] at HSET
        have hpost : ∀ e, ((¬ Mat fs k ∧ e = Ending.returned (.tuple #[.int .i64 0, .int .i64 0, .iface 42 (.int .i64 2)])) ∨ ∃ t : Nat, First fs k t ∧ e = .returned (.tuple #[.int .i64 t, .int .i64 ((t + 2 ^ k : Nat) : Int), .nilIface])) → PairPost m fs k e := by
          intro e h
          rcases h with ⟨h1, h2⟩ | ⟨t, h1, h2⟩
          · exact .inr (.inr (.inl ⟨HOK.out, by omega, by rwa [Int.toNat_natCast], h2⟩))
          · exact .inr (.inr (.inr ⟨HOK.out, by omega, t, by rwa [Int.toNat_natCast], by rw [Int.toNat_natCast]; exact h2⟩))
        have HPOST := Lib.hid hpost
        obtain ⟨B, hB⟩ : ∃ B, B = 2 ^ k := ⟨_, rfl⟩
        rw [← hB] at hp hpos HAND HOR HSET HPR HPOST
        clear hB hcell hf hpost hl hlen0
        have hBi : ((B : Int) == 0) = false := by rw [beq_eq_false_iff_ne]; omega
        go_enter Try.func15, Try.ntmps15
        go_wp2_with fail
        refine HC.out.mono ?_
        rintro e w' ⟨⟨_, rfl⟩ | ⟨h, _⟩, rfl⟩
        rotate_left
        · exact absurd HOK.out h
        go_wp2_with fail
        rw [hp]
        clear hp
        go_loopw [30] (fun tv wr => ∃ t q : Nat, tv = .int .i64 t ∧ t ≤ fs.length ∧ RowKit.Hid (∀ s, s < t → pr fs k s = false) ∧ wr = W.drewN q) (fun tv _ => fs.length - (intOf tv).toNat)
        case atStart => exact ⟨0, 0, rfl, by omega, Lib.hid (fun s hs => by omega), (drewN_zero W).symm⟩
        case round =>
          obtain ⟨t, q, rfl, ht, hall, rfl⟩ := hrel
          by_cases hlt : t < fs.length
          · have hand := HAND.out t (by omega)
            have hprt := HPR.out t
            have hfirst : pr fs k t = true → First fs k t := fun h => ⟨hlt, h, hall.out⟩
            have hnext : pr fs k t = false → ∀ s, s < t + 1 → pr fs k s = false := fun h s hs => by
              by_cases e : s = t
              · subst e; exact h
              · exact hall.out s (by omega)
            cases hbit : t.testBit k with
            | true =>
              rw [hbit] at hand
              rw [if_pos rfl] at hand
              have HN := Lib.hid (hnext (by rw [hprt, hbit]; rfl))
              clear hfirst hnext hprt
              go_wp2_with fail
              go_quiet (fail)
              go_wp2_with fail
              go_roundw
              case rel => exact ⟨t + 1, _, by go_num, by omega, HN, rfl⟩
              case measure => simp [intOf]; omega
            | false =>
              rw [hbit] at hand
              rw [if_neg (by simp)] at hand
              have hor := HOR.out t (by omega) hbit
              have hsl := (HSET.out t hlt hbit).1
              have hc1 := HCELL.out t hlt
              have hc2 := HCELL.out (t + B) hsl
              rw [hbit] at hprt
              simp only [Bool.not_false, Bool.true_and] at hprt
              have e1 : fs.getD t false = at' fs t := rfl
              have e2 : fs.getD (t + B) false = at' fs (t + B) := rfl
              rw [e1] at hc1
              rw [e2] at hc2
              obtain ⟨x, hx⟩ : ∃ x, x = at' fs t := ⟨_, rfl⟩
              obtain ⟨y, hy⟩ : ∃ y, y = at' fs (t + B) := ⟨_, rfl⟩
              rw [← hx] at hc1 hprt
              rw [← hy] at hc2 hprt
              obtain ⟨u, hu⟩ : ∃ u, u = t + B := ⟨_, rfl⟩
              rw [← hu] at hor hsl hc2
              have HU := Lib.hid hu
              clear e1 e2 hx hy hu
              by_cases hxy : x = y
              · subst hxy
                have hne : (x != x) = false := by simp
                have HN := Lib.hid (hnext (by rw [hprt]; exact hne))
                clear hfirst hnext hprt
                go_wp2_with fail
                go_quiet (fail)
                go_wp2_with fail
                go_roundw
                case rel => exact ⟨t + 1, _, by go_num, by omega, HN, rfl⟩
                case measure => simp [intOf]; omega
              · have hne : (x != y) = true := by simpa using hxy
                have HF := Lib.hid (hfirst (by rw [hprt]; exact hne))
                clear hfirst hnext hprt hne
                obtain rfl : y = !x := by cases x <;> cases y <;> simp_all
                clear hxy
                cases x
                all_goals
                  go_wp2_with fail
                  go_quiet (fail)
                  go_wp2_with fail
                  go_ret3
                  exact ⟨HPOST.out _ (.inr ⟨t, HF.out, by rw [← HU.out]; rfl⟩), _, rfl⟩
          · have hte : t = fs.length := by omega
            subst hte
            have HNO := Lib.hid (show ¬ Mat fs k from fun ⟨s, hs, h⟩ => by rw [hall.out s hs] at h; cases h)
            clear hall
            go_wp2_with fail
            go_ret3
            exact ⟨HPOST.out _ (.inl ⟨HNO.out, rfl⟩), _, rfl⟩
  · have HOK := Lib.hid hok
    clear hok
    go_enter Try.func15, Try.ntmps15
    go_wp2_with fail
    refine HC.out.mono ?_
    rintro e w' ⟨⟨h, _⟩ | ⟨_, rfl⟩, rfl⟩
    · exact absurd h HOK.out
    · go_wp2_with fail
      go_ret3
      exact ⟨.inl ⟨HOK.out, rfl⟩, 0, rfl⟩
end Go.Proofs.Ytpmfpegjkfnnkaa
