/- hit.Check, Least, Hits. No conditions beyond sizes. -/
import Derived.Test.YtbgcmemndaaopaaDoorHit2
namespace Go.Proofs.YtbgcmemndaaopaaDoor
open Go.RowKit Go.Mine Go.Mine.Hit Go.Sort

theorem shr12_zero {t : Nat} : ((t : Int) / 4096 != 0) = decide (¬ t < 4096) := by
  rw [Bool.eq_iff_iff, bne_iff_ne, decide_eq_true_eq]
  omega

set_option maxHeartbeats 1000000 in
theorem hcheck_any (ts : List Nat) (ao : Option Addr) (c : Nat) (W : World) (hx : IntsAt .u32 W ao (cast ts)) (hl : ts.length ≤ maxLen) :
    Calls Tryd.prog 7 #[.slice ao ts.length c] W fun e w' => ((ok ts ∧ e = .returned .nilIface) ∨ (¬ ok ts ∧ e = .returned (.iface 24 (.int .i64 (fault ts))))) ∧ W = w' := by
  unfold maxLen at hl
  by_cases h3 : 20 < ts.length
  · have HF := Lib.hid (show fault ts = 4 by unfold fault; rw [if_pos h3])
    have HNO := Lib.hid (show ¬ ok ts by rintro ⟨h, _⟩; omega)
    clear hx
    go_enter Tryd.func7, Tryd.ntmps7
    go_wp2_with fail
    go_ret
    exact ⟨.inr ⟨HNO.out, by rw [HF.out]; rfl⟩, rfl⟩
  · have HX := Lib.hid hx
    clear hx
    go_enter Tryd.func7, Tryd.ntmps7
    go_wp2_with fail
    go_loop [11] (fun kv => ∃ k : Nat, kv = .int .i64 k ∧ k ≤ ts.length ∧ RowKit.Hid (∀ j, j < k → ts.getD j 0 < 4096)) (fun kv => ts.length - (intOf kv).toNat)
    case atStart => exact ⟨0, rfl, by omega, Lib.hid (fun j hj => by omega)⟩
    case round =>
      obtain ⟨k, rfl, hk, hall⟩ := hrel
      by_cases hlt : k < ts.length
      · obtain ⟨b, o, rfl, hc⟩ := HX.out k (by rw [cast_len]; exact hlt)
        rw [cast_get] at hc
        have hmem : ts.getD k 0 ∈ ts := by simp [hlt]
        obtain ⟨t, ht⟩ : ∃ t, t = ts.getD k 0 := ⟨_, rfl⟩
        rw [← ht] at hc hmem
        have HT := Lib.hid ht
        have HM := Lib.hid hmem
        have hs := shr12_zero (t := t)
        clear ht hmem
        by_cases hlm : t < 4096
        · have HLM := Lib.hid hlm
          rw [decide_eq_false (by omega)] at hs
          have HN := Lib.hid (show ∀ j, j < k + 1 → ts.getD j 0 < 4096 from fun j hj => by
            by_cases e : j = k
            · subst e; rw [← HT.out]; exact HLM.out
            · exact hall.out j (by omega))
          clear hlm hall
          go_wp2_with fail
          go_round
          case rel => exact ⟨k + 1, by go_num, by omega, HN⟩
          case measure => simp [intOf]; omega
        · have HLM := Lib.hid hlm
          rw [decide_eq_true hlm] at hs
          have HNO := Lib.hid (show ¬ ok ts by rintro ⟨_, h⟩; exact HLM.out (h t HM.out))
          have HF := Lib.hid (show fault ts = 1 by unfold fault; rw [if_neg (by omega), if_neg (fun h => HLM.out (h t HM.out))])
          clear hlm hall
          go_wp2_with fail
          go_ret
          exact ⟨.inr ⟨HNO.out, by rw [HF.out]; rfl⟩, rfl⟩
      · obtain rfl : k = ts.length := by omega
        have HO := Lib.hid (show ok ts from ⟨by omega, fun t ht => by
          obtain ⟨j, hj, rfl⟩ := List.mem_iff_getElem.1 ht
          have := hall.out j hj
          simpa [hj] using this⟩)
        go_wp2_with fail
        go_ret
        exact ⟨.inl ⟨HO.out, rfl⟩, rfl⟩

/-- hit.Least. -/
theorem hLeast_any (ts : List Nat) (ao : Option Addr) (c : Nat) (W : World) (hx : IntsAt .u32 W ao (cast ts)) (hn : ao = none → ts.length = 0) (hl : ts.length ≤ maxLen) :
    Calls Tryd.prog 10 #[.slice ao ts.length c] W fun e w' => ((ok ts ∧ ∃ v m, e = .returned (.tuple #[v, .nilIface]) ∧ Lst (· ∈ ts) m ∧ w'.ownsRow W.heap.size 35 1 v m.length ((cast m).map (Value.int .u32))) ∨ (¬ ok ts ∧ e = .returned (.tuple #[.slice none 0 0, .iface 24 (.int .i64 (fault ts))]))) ∧ Below W.heap.size W w' := by
  have HC := Lib.hid (hcheck_any ts ao c W hx hl)
  by_cases hok : ok ts
  · have HL := Lib.hid (hleast_any ts ao c W hx hn (by have := hok.1; omega))
    have HOK := Lib.hid hok
    have HLS := Lib.hid (leastL_lst (ts := ts) (fun t ht => by have := hok.2 t ht; omega))
    clear hx hn hok
    go_enter Tryd.func10, Tryd.ntmps10
    go_wp2_with fail
    refine HC.out.mono ?_
    rintro e w' ⟨⟨_, rfl⟩ | ⟨h, _⟩, rfl⟩
    rotate_left
    · exact absurd HOK.out h
    go_wp2_with fail
    refine HL.out.mono ?_
    clear HC HL
    rintro e w' ⟨v, rfl, ho, hb⟩
    have HO := Lib.hid ho
    have HB := Lib.hid hb
    clear ho hb
    go_wp2_with fail
    go_ret2
    exact ⟨.inl ⟨HOK.out, _, _, rfl, HLS.out, HO.out⟩, HB.out⟩
  · have HOK := Lib.hid hok
    clear hx hn hok
    go_enter Tryd.func10, Tryd.ntmps10
    go_wp2_with fail
    refine HC.out.mono ?_
    rintro e w' ⟨⟨h, _⟩ | ⟨_, rfl⟩, rfl⟩
    · exact absurd h HOK.out
    clear HC
    go_wp2_with fail
    go_ret2
    exact ⟨.inr ⟨HOK.out, rfl⟩, Below.refl _ _⟩

set_option maxHeartbeats 2000000 in
/-- hit.Hits. -/
theorem hHits_any (ts : List Nat) (ao : Option Addr) (c : Nat) (W : World) (hx : IntsAt .u32 W ao (cast ts)) (hl : ts.length ≤ maxLen) :
    Calls Tryd.prog 12 #[.slice ao ts.length c] W fun e w' => ((ok ts ∧ ∃ v m, e = .returned (.tuple #[v, .nilIface]) ∧ Lst (U ts) m ∧ w'.ownsRow W.heap.size 35 1 v m.length ((cast m).map (Value.int .u32))) ∨ (¬ ok ts ∧ e = .returned (.tuple #[.slice none 0 0, .iface 24 (.int .i64 (fault ts))]))) ∧ Below W.heap.size W w' := by
  have HC := Lib.hid (hcheck_any ts ao c W hx hl)
  by_cases hok : ok ts
  rotate_left
  · have HOK := Lib.hid hok
    clear hx hok
    go_enter Tryd.func12, Tryd.ntmps12
    go_wp2_with fail
    refine HC.out.mono ?_
    rintro e w' ⟨⟨h, _⟩ | ⟨_, rfl⟩, rfl⟩
    · exact absurd h HOK.out
    clear HC
    go_wp2_with fail
    go_ret2
    exact ⟨.inr ⟨HOK.out, rfl⟩, Below.refl _ _⟩
  · obtain ⟨i0, hi0, hz0, hz1, hz2⟩ := info_parts slInfoU
    have HX := Lib.hid hx
    have HOK := Lib.hid hok
    have hl20 : ts.length ≤ 20 := hok.1
    have hb0 : Below W.heap.size W (W.alloc (.cells #[.int .u32 0] 35)) := (Below.refl _ _).alloc (Nat.le_refl _) _
    have ho0 : (W.alloc (.cells #[.int .u32 0] 35)).ownsRow W.heap.size 35 1 (.slice (some ⟨W.heap.size, 0, none⟩) 1 1) ([0] : List Nat).length ((cast [0]).map (Value.int .u32)) := owns_laid (heap_alloc_new _ _) (Nat.le_refl _) (by simp) (by simp [maxLen])
    have HST := Lib.hid (And.intro ho0 hb0)
    clear hx hok hl hb0 ho0
    go_enter Tryd.func12, Tryd.ntmps12
    go_wp2_with fail
    refine HC.out.mono ?_
    rintro e w' ⟨⟨_, rfl⟩ | ⟨h, _⟩, rfl⟩
    rotate_left
    · exact absurd HOK.out h
    clear HC
    go_wp2_with fail
    go_loopw [5, 20] (fun v kv wr => ∃ (k : Nat) (out : List Nat), kv = .int .i64 k ∧ k ≤ ts.length ∧ RowKit.Hid (Lst (U (ts.take k)) out) ∧ RowKit.Hid (wr.ownsRow W.heap.size 35 1 v out.length ((cast out).map (Value.int .u32))) ∧ RowKit.Hid (Below W.heap.size W wr)) (fun _ kv _ => ts.length - (intOf kv).toNat)
    case atStart => exact ⟨0, [0], rfl, by omega, Lib.hid lst_none, Lib.hid HST.out.1, Lib.hid HST.out.2⟩
    clear HST
    case round =>
      obtain ⟨k, out, rfl, hk, hlst, ho, hb⟩ := hrel
      by_cases hlt : k < ts.length
      · obtain ⟨b, o, rfl, hc⟩ := (HX.out.below (Nat.le_refl _) hb.out) k (by rw [cast_len]; exact hlt)
        rw [cast_get] at hc
        have hs : ts.getD k 0 < 4096 := get_lt (by decide) HOK.out.2 k
        have htk := take_snoc hlt
        obtain ⟨s, hsd⟩ : ∃ s, s = ts.getD k 0 := ⟨_, rfl⟩
        rw [← hsd] at hc hs htk
        obtain ⟨oo, oc, rfl⟩ := owns_shape ho.out
        have hol := hlst.out.len
        obtain ⟨wk, hwk⟩ : ∃ wk, wk = wr := ⟨_, rfl⟩
        subst hwk
        have HTK := Lib.hid htk
        have HL := Lib.hid hlst.out
        have HO := Lib.hid ho.out
        have HB := Lib.hid hb.out
        clear hlst ho hb htk hsd
        go_wp2_with fail
        go_loopw [8, 26] (fun v jv wx => ∃ (j : Nat), jv = .int .i64 j ∧ j ≤ out.length ∧ RowKit.Hid (wx.ownsRow wk.heap.size 35 1 v (next (out.take j) s).length ((cast (next (out.take j) s)).map (Value.int .u32))) ∧ RowKit.Hid (Below wk.heap.size wk wx)) (fun _ jv _ => out.length - (intOf jv).toNat)
        case atStart => exact ⟨0, rfl, by omega, Lib.hid (World.ownsRow_nil _ _ _ _), Lib.hid (Below.refl _ _)⟩
        case round =>
          obtain ⟨wx, hwx⟩ : ∃ wx, wx = wr := ⟨_, rfl⟩
          subst hwx
          obtain ⟨j, rfl, hj, ho2, hb2⟩ := hrel
          by_cases hjl : j < out.length
          · have hxo := (IntsAt.of_owns HO.out).below (Nat.le_refl _) hb2.out
            obtain ⟨b2, o2, rfl, hc2⟩ := hxo j (by rw [cast_len]; exact hjl)
            rw [cast_get] at hc2
            have hh : out.getD j 0 < 4096 := get_lt (by decide) (fun x hx => (HL.out.so hx).1) j
            have hnt := next_take s hjl
            have hnl := next_len s (out.take j)
            rw [List.length_take] at hnl
            obtain ⟨h, hhd⟩ : ∃ h, h = out.getD j 0 := ⟨_, rfl⟩
            rw [← hhd] at hc2 hh hnt
            obtain ⟨nx, hnx⟩ : ∃ nx, nx = next (out.take j) s := ⟨_, rfl⟩
            rw [← hnx] at ho2 hnt hnl
            have hand := u32_and_nat h s (by omega) (by omega)
            obtain ⟨m, hm⟩ : ∃ m, m = h &&& s := ⟨_, rfl⟩
            rw [← hm] at hand
            have hnl2 : nx.length ≤ 49152 := by omega
            have HNT := Lib.hid hnt
            have HO2 := Lib.hid ho2.out
            have HB2 := Lib.hid hb2.out
            have hsz := hb2.out.size
            have HM := Lib.hid hm
            clear hxo hnt hhd hnx ho2 hb2 hnl hm
            by_cases hm0 : m = 0
            · subst hm0
              have b1 : (((0 : Nat) : Int) != 0) = false := by decide
              have HW := Lib.hid (nextOf_with HM.out.symm)
              go_wp2_with fail
              go_loopw [8, 11] (fun v bv wy => ∃ (i x : Nat), bv = .int .u32 (x : Int) ∧ RowKit.Hid (x = 2 ^ i) ∧ x ≤ 8192 ∧ i ≤ 13 ∧ RowKit.Hid (wy.ownsRow wk.heap.size 35 1 v (nx ++ withOf s h i).length ((cast (nx ++ withOf s h i)).map (Value.int .u32))) ∧ RowKit.Hid (Below wk.heap.size wk wy)) (fun _ bv _ => 10000 - (intOf bv).toNat)
              case atStart => exact ⟨0, 1, rfl, Lib.hid rfl, by omega, by omega, by simpa [withOf] using HO2, HB2⟩
              case round =>
                obtain ⟨i, x, rfl, hx, hx8, hi, ho3, hb3⟩ := hrel
                by_cases hxs : x ≤ s
                · have hbit := withOf_succ s h i
                  have hand2 := u32_and_nat s x (by omega) (by omega)
                  obtain ⟨q, hq⟩ : ∃ q, q = s &&& x := ⟨_, rfl⟩
                  rw [← hq] at hand2
                  have hx0 : 0 < x := by rw [hx.out]; exact Nat.two_pow_pos i
                  have hi12 : i < 12 := by
                    rcases Nat.lt_or_ge i 12 with h1 | h1
                    · exact h1
                    · have := Nat.pow_le_pow_right (n := 2) (by decide) h1
                      rw [← hx.out] at this
                      omega
                  have HX2 := Lib.hid (show x * 2 = 2 ^ (i + 1) by rw [hx.out, Nat.pow_succ])
                  have HB3 := Lib.hid hb3.out
                  have hsz3 := hb3.out.size
                  have HO3 := Lib.hid ho3.out
                  have hnl3 := withOf_len s h i
                  by_cases hq0 : q = 0
                  · subst hq0
                    have b3 : (((0 : Nat) : Int) != 0) = false := by decide
                    have hno : s.testBit i = false := by
                      cases hb : s.testBit i
                      · rfl
                      · exact absurd (by rw [← hx.out]; exact hq.symm) (bit_and.2 hb)
                    rw [hno] at hbit
                    have HO4 := Lib.hid (show wr.ownsRow wk.heap.size 35 1 _ (nx ++ withOf s h (i + 1)).length ((cast (nx ++ withOf s h (i + 1))).map (Value.int .u32)) by rw [hbit]; simpa using ho3.out)
                    clear hbit ho3 hb3 hq hno hx HO3
                    go_wp2_with fail
                    go_roundw
                    case rel => exact ⟨i + 1, x * 2, by go_num, HX2, by omega, by omega, HO4, HB3⟩
                    case measure => simp [intOf]; omega
                  · have b3 : ((q : Int) != 0) = true := by rw [bne_iff_ne]; omega
                    have hyes : s.testBit i = true := bit_and.1 (by rw [← hx.out, ← hq]; exact hq0)
                    rw [hyes] at hbit
                    have hor := u32_or_nat h x (by omega) (by omega)
                    obtain ⟨y, hy⟩ : ∃ y, y = h ||| x := ⟨_, rfl⟩
                    rw [← hy] at hor
                    rw [← hx.out, if_pos rfl, ← hy] at hbit
                    obtain ⟨vs, hvs⟩ : ∃ vs, vs = nx ++ withOf s h i := ⟨_, rfl⟩
                    rw [← hvs] at HO3
                    have hvl : vs.length ≤ 60000 := by rw [hvs, List.length_append]; omega
                    have HBIT := Lib.hid (show nx ++ withOf s h (i + 1) = vs ++ [y] by rw [hbit, hvs, List.append_assoc])
                    clear hbit ho3 hb3 hq hyes hx hy hvs
                    go_wp2_with (at_builtin; refine wpList_push _ rfl _ _ 22 rfl wk.heap.size 35 i0 (.int .u32 0) 1 4 Tryd.underlying22 hi0 hz0 hz1 hz2 rfl (by decide) _ _ _ rfl (HO3.out.alloc _) ⟨wr.heap.size, 0, none⟩ 1 [.int .u32 y] rfl rfl (cell_one_new _ _ _) (one1 _ _) (by unfold maxLen; omega) (by omega) (by simp; omega) ?_)
                    intro g cap w7 ho7 hg7
                    have hb7 := (HB3.out.alloc hsz3 (.cells #[.int .u32 y] 35)).grown hg7 (by simp; omega) (fun k hk => (HO3.out.lt k hk).1)
                    rw [show (cast vs).map (Value.int .u32) ++ [.int .u32 y] = (cast (nx ++ withOf s h (i + 1))).map (Value.int .u32) by rw [HBIT.out]; simp [cast]] at ho7
                    have hln : vs.length + 1 = (nx ++ withOf s h (i + 1)).length := by rw [HBIT.out]; simp
                    rw [hln] at ho7 ⊢
                    have HO7 := Lib.hid ho7
                    have HB7 := Lib.hid hb7
                    clear ho7 hb7 hg7 hln
                    go_wp2_with fail
                    go_roundw
                    case rel => exact ⟨i + 1, x * 2, by go_num, HX2, by omega, by omega, HO7, HB7⟩
                    case measure => simp [intOf]; omega
                · have hend := withOf_end (s := s) (h := h) (i := i) (by rw [← hx.out]; omega) hs
                  have HO4 := Lib.hid (show wr.ownsRow wk.heap.size 35 1 _ (next (out.take (j + 1)) s).length ((cast (next (out.take (j + 1)) s)).map (Value.int .u32)) by rw [HNT.out, HW.out, ← hend]; exact ho3.out)
                  have HB4 := Lib.hid hb3.out
                  clear hend ho3 hb3 hx
                  go_wp2_with fail
                  go_roundw
                  case rel => exact ⟨j + 1, by go_num, by omega, HO4, HB4⟩
                  case measure => simp [intOf]; omega
            · have b1 : ((m : Int) != 0) = true := by rw [bne_iff_ne]; omega
              have HW := Lib.hid (nextOf_one (s := s) (h := h) (by rw [← HM.out]; exact hm0))
              have hlc : (cast nx).length = nx.length := cast_len nx
              go_wp2_with (at_builtin; refine wpList_push _ rfl _ _ 22 rfl wk.heap.size 35 i0 (.int .u32 0) 1 4 Tryd.underlying22 hi0 hz0 hz1 hz2 rfl (by decide) _ _ _ rfl (HO2.out.alloc _) ⟨wx.heap.size, 0, none⟩ 1 [.int .u32 h] rfl rfl (cell_one_new _ _ _) (one1 _ _) (by unfold maxLen; omega) (by omega) (by simp; omega) ?_)
              intro g cap w7 ho7 hg7
              have hb7 := (HB2.out.alloc hsz (.cells #[.int .u32 h] 35)).grown hg7 (by simp; omega) (fun k hk => (HO2.out.lt k hk).1)
              rw [show (cast nx).map (Value.int .u32) ++ [.int .u32 h] = (cast (next (out.take (j + 1)) s)).map (Value.int .u32) by rw [HNT.out, HW.out]; simp [cast]] at ho7
              have hln : nx.length + 1 = (next (out.take (j + 1)) s).length := by rw [HNT.out, HW.out]; simp
              rw [hln] at ho7 ⊢
              have HO7 := Lib.hid ho7
              have HB7 := Lib.hid hb7
              clear ho7 hb7 hg7 hln
              go_wp2_with fail
              go_roundw
              case rel => exact ⟨j + 1, by go_num, by omega, HO7, HB7⟩
              case measure => simp [intOf]; omega
          · obtain rfl : j = out.length := by omega
            have ho3 := ho2.out
            rw [List.take_length] at ho3
            have hnl := next_len s out
            have HB3 := Lib.hid (HB.out.trans (hb2.out.mono HB.out.size))
            obtain ⟨xo, xc, rfl⟩ := owns_shape ho3
            have HO3 := Lib.hid ho3
            have HLE := Lib.hid (hleast_any (next out s) xo xc wx (IntsAt.of_owns ho3) (fun e => by subst e; rcases ho3.2 with ⟨_, h0⟩ | ⟨g, cap, cur, hv, _⟩; exact h0; cases hv) (by omega))
            have HLS := Lib.hid (show Lst (U (ts.take (k + 1))) (leastL (next out s)) by
              rw [HTK.out]
              exact (leastL_lst (fun t ht => by have := (next_in HL.out ht).1; omega)).congr (least_next HL.out))
            clear ho3 ho2 hb2
            go_wp2_with fail
            refine HLE.out.mono ?_
            clear HLE
            rintro e w9 ⟨v9, rfl, ho9, hb9⟩
            have HO9 := Lib.hid (owns_mono ho9 HB3.out.size)
            have HB9 := Lib.hid (HB3.out.trans (hb9.mono HB3.out.size))
            clear ho9 hb9
            go_wp2_with fail
            go_roundw
            case rel => exact ⟨k + 1, _, by go_num, by omega, HLS, HO9, HB9⟩
            case measure => simp [intOf]; omega
      · obtain rfl : k = ts.length := by omega
        have hl2 := hlst.out
        rw [List.take_length] at hl2
        have HL := Lib.hid hl2
        clear hl2 hlst
        go_wp2_with fail
        go_ret2
        exact ⟨.inl ⟨HOK.out, _, _, rfl, HL.out, ho.out⟩, hb.out⟩
end Go.Proofs.YtbgcmemndaaopaaDoor
