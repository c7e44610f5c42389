/- inter.Nth. -/
import Derived.Test.YtkdfikjfbbnekaaDoorF
namespace Go.Proofs.YtkdfikjfbbnekaaDoor
open Go.RowKit Go.Mine Go.Mine.Inter

def NthPost (l : List Nat) (k : Int) (w : World) (e : Ending) (w' : World) : Prop :=
  (∃ (v : Value) (o : List Int), e = .returned (.tuple #[v, .nilIface]) ∧ 0 ≤ k ∧ rankOf l o = some k.toNat ∧ w'.ownsRow w.heap.size 3 1 v o.length (o.map (Value.int .i64))) ∨
  (¬ (0 ≤ k ∧ k < mult l) ∧ e = .returned (.tuple #[.slice none 0 0, .iface 24 (.int .i64 1)]))
def lenOf : Value → Nat
  | .slice _ n _ => n
  | _ => 0

set_option maxHeartbeats 1000000 in
set_option maxRecDepth 100000 in
theorem Nth_ok (l : List Nat) (k : Int) (ao : Option Addr) (ca : Nat) (w : World) (hx : IntsAt .i64 w ao (cast l)) (hn : ao = none → l.length = 0) (hok : ok (cast l)) (hk : -9223372036854775808 ≤ k ∧ k ≤ 9223372036854775807) :
    Calls Tryd.prog 10 #[.slice ao l.length ca, .int .i64 k] w fun e w' => NthPost l k w e w' ∧ Below w.heap.size w w' := by
  obtain ⟨i0, hi0, hz0, hz1, hz2⟩ := info_parts info3
  have h6 : l.length ≤ 6 := by simpa using hok.1
  have h20 : l.sum ≤ 20 := by have := (map_toNat _ hok.2.1).2; have h3 := hok.2.2; rw [toNat_map] at this; omega
  have hmb : mult l ≤ 2432902008176640000 := by have := mult_le l; have h2 := fac_mono h20; rw [fac20] at h2; omega
  have hct := Count_any (cast l) ao ca w hx (by simp; unfold maxLen; omega)
  have hcl := clone_own ao ca (cast l) w hx (by simpa using hn) (by simp; omega)
  rw [List.length_map] at hct hcl
  have HK := Lib.hid hct; clear hct
  have HCL := Lib.hid hcl; clear hcl
  have HOK := Lib.hid hok; clear hok
  clear hx hn
  go_enter Tryd.func10, Tryd.ntmps10
  go_wp2_with fail
  refine HK.out.mono ?_
  rintro e w1 ⟨hp, rfl⟩
  rcases hp with ⟨_, rfl⟩ | ⟨h, _⟩
  · rw [toNat_map]
    clear HK
    obtain ⟨N, hN⟩ : ∃ N, N = mult l := ⟨_, rfl⟩
    rw [← hN] at hmb ⊢
    have HN := Lib.hid hN; clear hN
    by_cases hk0 : k < 0
    · go_wp2_with fail
      go_ret2
      exact ⟨.inr ⟨by omega, rfl⟩, Below.refl _ _⟩
    · by_cases hkN : (N : Int) ≤ k
      · go_wp2_with fail
        go_ret2
        exact ⟨.inr ⟨by have := HN.out; omega, rfl⟩, Below.refl _ _⟩
      · obtain ⟨k0, rfl⟩ : ∃ k0 : Nat, k = k0 := ⟨k.toNat, by omega⟩
        go_wp2_with fail
        refine HCL.out.mono ?_
        clear HCL
        rintro e w1 ⟨v, rfl, hown, hb1⟩
        obtain ⟨va, vc, rfl⟩ := owns_shape hown
        have hs1 := hb1.size
        have HOWN := Lib.hid hown
        have HB1 := Lib.hid hb1
        clear hown hb1
        go_wp2_with fail
        go_loopw [1, 6, 9] (fun kv nv ov wr => ∃ (kk : Nat) (m : List Nat) (o : List Int), kv = .int .i64 kk ∧ nv = .int .i64 (mult m : Nat) ∧ m.length = l.length ∧ m.sum + o.length = l.sum ∧ kk < mult m ∧ (∀ o', rankOf m o' = some kk → rankOf l (o ++ o') = some k0) ∧
          wr.ownsRow w.heap.size 3 1 (.slice va l.length vc) l.length ((cast m).map (Value.int .i64)) ∧ wr.ownsRow w.heap.size 3 1 ov o.length (o.map (Value.int .i64)) ∧ Apart ov (.slice va l.length vc) ∧ Below w.heap.size w wr) (fun _ _ ov _ => l.sum - lenOf ov)
        case atStart => exact ⟨k0, l, [], rfl, by rw [HN.out], rfl, by simp, by have := HN.out; omega, fun o' h => h, HOWN.out, World.ownsRow_nil _ _ _ _, (fun g h => by cases h), HB1.out⟩
        case round =>
          obtain ⟨kk, m, o, rfl, rfl, hml, hmo, hkm, hrel, hown, hout, hap, hb⟩ := hrel
          have HREL := Lib.hid hrel; clear hrel
          obtain ⟨oa, oc, rfl⟩ := owns_shape hout
          have hm20 : m.sum ≤ 20 := by omega
          have hmm : mult m ≤ 2432902008176640000 := by have := mult_le m; have h2 := fac_mono hm20; rw [fac20] at h2; omega
          have hfull := fun h => up_full m h
          have hnone := mult_none m
          obtain ⟨K, hK⟩ : ∃ K, K = mult m := ⟨_, rfl⟩
          rw [← hK] at hkm hmm hfull hnone ⊢
          have HK := Lib.hid hK; clear hK
          have hsz := hb.size
          have HFULL := Lib.hid hfull; clear hfull
          rcases Nat.lt_or_ge 1 K with h1 | h1
          case' inl =>
            have hs0 : 0 < m.sum := by
              rcases Nat.eq_zero_or_pos m.sum with h | h
              · have := hnone h; omega
              · exact h
            clear hnone
            have HOWN2 := Lib.hid hown
            have HOUT2 := Lib.hid hout
            have HB2 := Lib.hid hb
            clear hown hout hb
            obtain ⟨w4, hw4⟩ : ∃ w4, w4 = wr := ⟨_, rfl⟩
            subst hw4
            go_wp2_with fail
          case' inr =>
            have HN1 := Lib.hid hnone; clear hnone
            have hdK : decide ((1 : Int) < (K : Int)) = false := by simp; omega
            have HOUT1 := Lib.hid hout
            have HB1' := Lib.hid hb
            go_wp2_with (at_builtin; refine wpList_push_keep _ (by rfl) _ _ 22 rfl w.heap.size 3 i0 (.int .i64 0) 1 8 Tryd.underlying22 hi0 hz0 hz1 hz2 rfl (by decide) _ _ _ rfl (hown.alloc _) ⟨wr.heap.size, 0, none⟩ 1 [.int .i64 0] rfl rfl (cell_one_new _ _ _) (one1 _ _) ?c3 ?c4 ?c5 ?_)
            case c3 => unfold maxLen; omega
            case c4 => omega
            case c5 => simp; omega
            intro g2 cap2 w4 hown4 hown5 hg4
            have hb4 := (hb.alloc (by omega) (.cells #[.int .i64 0] 3)).grown hg4 (by simp; omega) (fun q hq => by have := (hown.lt q hq).1; omega)
            have hout4 := owns_apart (HOUT1.out.alloc (.cells #[.int .i64 0] 3)) hg4 hap.symm
            have hown4 : w4.ownsRow w.heap.size 3 1 (.slice (some ⟨g2, 0, none⟩) (l.length + 1) cap2) (l.length + 1) ((cast m ++ [0]).map (Value.int .i64)) := by simpa using hown4
            have hown5 : w4.ownsRow w.heap.size 3 1 (.slice va l.length vc) l.length ((cast m).map (Value.int .i64)) := by simpa using hown5
            have hmx := max_any (cast m ++ [0]) (some ⟨g2, 0, none⟩) cap2 w4 (IntsAt.of_owns hown4) (by simp) (by simp; unfold maxLen; omega)
            rw [show (cast m ++ [(0 : Int)]).length = l.length + 1 by simp [hml]] at hmx
            have HMX := Lib.hid hmx
            have HB2 := Lib.hid hb4
            have HOWN2 := Lib.hid hown5
            have HOUT2 := Lib.hid hout4
            clear hmx hb4 hown4 hg4 hown hb hown5 hout4 hout HOUT1 HB1'
            go_wp2_with fail
            refine HMX.out.mono ?_
            rintro e w5 ⟨⟨M, rfl, hM, hall⟩, rfl⟩
            have hms := max_sum hM hall
            clear hM hall HMX
            by_cases h0 : 0 < M
          case neg =>
            have hs0 : m.sum = 0 := by omega
            have hk1 := HN1.out hs0
            have hR := HREL.out [] (by unfold rankOf; rw [if_pos hs0]; congr 1; omega)
            rw [List.append_nil] at hR
            have HR := Lib.hid hR
            clear hR
            go_wp2_with fail
            go_ret2
            exact ⟨.inl ⟨_, o, rfl, by omega, by simpa using HR.out, HOUT2.out⟩, HB2.out⟩
          case' pos =>
            have hs0 : 0 < m.sum := by omega
            clear hms HN1
            go_wp2_with fail
          all_goals
            go_loopw [40, 1, 6, 9] (fun i kv nv ov wr => ∃ (ii q : Nat) (z : Int), i = .int .i64 ii ∧ kv = .int .i64 q ∧ nv = .int .i64 z ∧ ov = .slice oa o.length oc ∧ ii ≤ l.length ∧ up m ii + q = kk ∧
              wr.ownsRow w.heap.size 3 1 (.slice va l.length vc) l.length ((cast m).map (Value.int .i64)) ∧ wr.ownsRow w.heap.size 3 1 (.slice oa o.length oc) o.length (o.map (Value.int .i64)) ∧ Below w.heap.size w wr) (fun i _ _ _ _ => l.length - (intOf i).toNat)
            case atStart => exact ⟨0, kk, K, rfl, rfl, rfl, rfl, by omega, by simp [up], HOWN2.out, HOUT2.out, HB2.out⟩
            case round =>
              obtain ⟨ii, q, z, rfl, rfl, rfl, rfl, hii, hq, hown, hout, hb⟩ := hrel
              by_cases hil : ii < l.length
              · obtain ⟨g, rfl⟩ := slotOf hown (by omega)
                have hci : wr.cell? ⟨g, ii, none⟩ = some (.int .i64 (m.getD ii 0 : Nat)) := by rw [hown.cellAt ii (by omega)]; exact cast_get m ii (by omega)
                have hgl := (hown.lt g rfl).1
                by_cases hmz : m.getD ii 0 = 0
                · have HZ := Lib.hid (show up m (ii + 1) = up m ii by rw [up, term_zero m ii hmz]; rfl)
                  rw [hmz] at hci
                  clear hmz
                  go_wp2_with fail
                  go_roundw
                  case rel => exact ⟨ii + 1, q, z, by go_num, rfl, rfl, rfl, by omega, by rw [HZ.out]; exact hq, hown, hout, hb⟩
                  case measure => simp [intOf]; omega
                · have HZ := Lib.hid (show up m (ii + 1) = up m ii + mult (less m ii) by rw [up, term_pos m ii (by omega)])
                  have hlsi := less_sum m ii (by omega) (by omega)
                  have hRA := fun o' h => rankOf_app m ii (o := o') (q := q) (by omega) (by omega) h
                  rw [hq] at hRA
                  have HRA := Lib.hid hRA
                  have hmi20 := get_le_sum m ii (by omega)
                  have hMM : mult (less m ii) ≤ 2432902008176640000 := by have := mult_le (less m ii); have h2 := fac_mono (show (less m ii).sum ≤ 20 by omega); rw [fac20] at h2; omega
                  have hst := (hown.stored ii (.int .i64 ((m.getD ii 0 : Nat) - 1))).1
                  rw [cast_less m ii (by omega)] at hst
                  have hfz := hown.frozenAt ii
                  have hfz2 := hst.frozenAt ii
                  have hb2 := hb.setCell (p := ⟨g, ii, none⟩) hgl (.int .i64 ((m.getD ii 0 : Nat) - 1))
                  have hcnt := count_any (less m ii) (some ⟨g, 0, none⟩) vc _ (IntsAt.of_owns hst) (by omega) (by rw [less_length]; omega)
                  rw [less_length, hml] at hcnt
                  have hst2 := (hst.stored ii (.int .i64 (m.getD ii 0 : Nat))).1
                  rw [cast_more m ii (by omega) (by omega)] at hst2
                  have hb3 := hb2.setCell (p := ⟨g, ii, none⟩) hgl (.int .i64 (m.getD ii 0 : Nat))
                  have hne : (Value.slice oa o.length oc).ownBlock ≠ some g := fun h => hap g h rfl
                  have hout2 := ownsRow_setCell_other hout (a := ⟨g, ii, none⟩) hne (.int .i64 ((m.getD ii 0 : Nat) - 1))
                  have hout3 := ownsRow_setCell_other hout2 (a := ⟨g, ii, none⟩) hne (.int .i64 (m.getD ii 0 : Nat))
                  have hc2 : (wr.setCell ⟨g, ii, none⟩ (.int .i64 ((m.getD ii 0 : Nat) - 1))).cell? ⟨g, ii, none⟩ = some (.int .i64 ((m.getD ii 0 : Nat) - 1)) := by
                    rw [hst.cellAt ii (by omega), cast_get _ ii (by rw [less_length]; omega)]
                    have h := less_get m ii ii (by omega) (by omega)
                    rw [if_pos rfl] at h
                    congr 2
                    omega
                  have hs2 := hb2.size
                  obtain ⟨mi, hmi⟩ : ∃ mi, mi = m.getD ii 0 := ⟨_, rfl⟩
                  rw [← hmi] at hmi20 hmz hci hcnt hc2 hst2 hb3 hout3 hst hb2 hout2 hfz2 hs2
                  obtain ⟨M', hM'⟩ : ∃ M', M' = mult (less m ii) := ⟨_, rfl⟩
                  rw [← hM'] at HZ hcnt hMM
                  have HM' := Lib.hid hM'
                  have HC := Lib.hid hcnt
                  have HS1 := Lib.hid hst
                  have HS2 := Lib.hid hst2
                  have HB3 := Lib.hid hb3
                  have HB2' := Lib.hid hb2
                  have HO2 := Lib.hid hout2
                  have HO3 := Lib.hid hout3
                  clear hcnt hst2 hb3 hst hb2 hown hb hmi hM' hout hout2 hout3 hRA
                  by_cases hqM : q < M'
                  · go_wp2_with fail
                    refine HC.out.mono ?_
                    rintro e w3 ⟨rfl, hw3⟩
                    rw [hw3] at HS1 HO2 HB2' hs2
                    clear hw3
                    go_wp2_with (at_builtin; refine wpList_push2 _ rfl _ _ 22 rfl w.heap.size 3 i0 (.int .i64 0) 1 8 Tryd.underlying22 hi0 hz0 hz1 hz2 rfl (by decide) _ _ _ rfl (HO2.out.alloc _) ⟨w3.heap.size, 0, none⟩ 1 [.int .i64 ii] rfl rfl (cell_one_new _ _ _) (one1 _ _) ?c3 ?c4 ?c5 ?_)
                    case c3 => unfold maxLen; omega
                    case c4 => omega
                    case c5 => simp; omega
                    intro g5 cap5 w5 hown5 hg5 hat5
                    have hleft5 := owns_apart (HS1.out.alloc (.cells #[.int .i64 ii] 3)) hg5 hap
                    have hap5 : Apart (.slice (some ⟨g5, 0, none⟩) (o.length + 1) cap5) (.slice (some ⟨g, 0, none⟩) l.length vc) := hap.grown HS1.out (hat5.elim .inl (fun h => .inr (by rw [h]; simp)))
                    have hb5 := (HB2'.out.alloc (by omega) (.cells #[.int .i64 ii] 3)).grown hg5 (by simp; omega) (fun q hq => by have := (HO2.out.lt q hq).1; omega)
                    have hout5 : w5.ownsRow w.heap.size 3 1 (.slice (some ⟨g5, 0, none⟩) (o.length + 1) cap5) (o.length + 1) ((o ++ [(ii : Int)]).map (Value.int .i64)) := by simpa using hown5
                    have HL5 := Lib.hid hleft5
                    have HO5 := Lib.hid hout5
                    have HB5 := Lib.hid hb5
                    clear hleft5 hout5 hb5 hown5 hg5 hat5
                    go_wp2_with fail
                    go_roundw
                    case rel => 
                      refine ⟨q, less m ii, o ++ [(ii : Int)], rfl, by rw [HM'.out], by rw [less_length]; exact hml, by rw [List.length_append]; simp; omega, by rw [← HM'.out]; exact hqM, ?_, HL5.out, by rw [List.length_append]; exact HO5.out, hap5, HB5.out⟩
                      intro o' h
                      rw [List.append_assoc]
                      exact HREL.out _ (HRA.out o' h)
                    case measure => simp [lenOf]; omega
                  · go_wp2_with fail
                    refine HC.out.mono ?_
                    rintro e w3 ⟨rfl, rfl⟩
                    go_wp2_with fail
                    go_roundw
                    case rel => exact ⟨ii + 1, q - M', M', by go_num, by go_num, rfl, rfl, by omega, by rw [HZ.out]; omega, HS2.out, HO3.out, HB3.out⟩
                    case measure => simp [intOf]; omega
              · have hie : ii = l.length := by omega
                have := HFULL.out hs0
                rw [hie, ← hml] at hq
                omega
  · exact absurd HOK.out h

theorem Nth_bad (xs : List Int) (k : Int) (ao : Option Addr) (ca : Nat) (w : World) (hx : IntsAt .i64 w ao xs) (hl : xs.length ≤ maxLen) (hok : ¬ ok xs) :
    Calls Tryd.prog 10 #[.slice ao xs.length ca, .int .i64 k] w fun e w' => e = .returned (.tuple #[.slice none 0 0, .iface 24 (.int .i64 (fault xs))]) ∧ w = w' := by
  have H := Count_any xs ao ca w hx hl
  go_enter Tryd.func10, Tryd.ntmps10
  go_wp2_with fail
  refine H.mono ?_
  rintro e w1 ⟨hp, rfl⟩
  rcases hp with ⟨h, _⟩ | ⟨_, c, rfl, rfl⟩
  · exact absurd h hok
  · go_wp2_with fail
    go_ret2
    exact ⟨rfl, rfl⟩
theorem Rank_bad (xs ord : List Int) (ao oo : Option Addr) (ca co : Nat) (w : World) (hx : IntsAt .i64 w ao xs) (hl : xs.length ≤ maxLen) (hok : ¬ ok xs) :
    Calls Tryd.prog 11 #[.slice ao xs.length ca, .slice oo ord.length co] w fun e w' => e = .returned (.tuple #[.int .i64 0, .iface 24 (.int .i64 (fault xs))]) ∧ w = w' := by
  have H := check_any xs ao ca w hx hl
  go_enter Tryd.func11, Tryd.ntmps11
  go_wp2_with fail
  refine H.mono ?_
  rintro e w1 ⟨hp, rfl⟩
  rcases hp with ⟨h, _⟩ | ⟨_, c, rfl, rfl⟩
  · exact absurd h hok
  · go_wp2_with fail
    go_ret2
    exact ⟨rfl, rfl⟩
end Go.Proofs.YtkdfikjfbbnekaaDoor
