/- SuiteOnce's walk. CONDITION: math/bits.deBruijn64tab holds what start-up lays there. -/
import Derived.Test.YtoneaocjooefiaaDoorA
import Derived.Test.YtoneaocjooefiaaDoorSuite10
namespace Go.Proofs.YtoneaocjooefiaaDoor
open Go.RowKit Go.Mine Go.Mine.Suite

theorem getD_at (l : List Nat) {k : Nat} (h : k < l.length) : l.getD k 0 = l[k] := by simp [h]
theorem gr_step {ts l : List Nat} {o k : Nat} (hk : k < l.length) (h : Gr ts o (l.drop k)) :
    o ≠ 0 ∧ l.getD k 0 < ts.length ∧ (∀ i, i < ts.length → ones (ts.getD i 0 &&& o) ≤ ones (ts.getD (l.getD k 0) 0 &&& o)) ∧ Gr ts (dif o (ts.getD (l.getD k 0) 0)) (l.drop (k + 1)) := by
  rw [List.drop_eq_getElem_cons hk, ← getD_at l hk] at h
  cases h with
  | cons h0 hb hm hf h => exact ⟨h0, hb, hm, h⟩
theorem gr_end {ts : List Nat} {l : List Nat} {o : Nat} (h : Gr ts o (l.drop l.length)) : o = 0 := by
  rw [List.drop_length] at h
  cases h; rfl
theorem owns_cap {w : World} {B : Nat} {ao : Option Addr} {n c m : Nat} {xs : List Value} (h : w.ownsRow B 3 1 (.slice ao n c) m xs) : n ≤ c := by
  rcases h.2 with ⟨e, _⟩ | ⟨g, cap, cur, e, _, _, hc, _⟩
  · cases e; exact Nat.le_refl _
  · cases e; exact hc
theorem few_less {n : Int} {ts l b : List Nat} (h : Told2 n ts l b) {i : Nat} (hi : i < b.length) : orAt ts (b.eraseIdx i) ≠ orAll ts := fun e => h.few.none_less hi (sub_eq.2 e)
theorem few_rise {n : Int} {ts l b : List Nat} (h : Told2 n ts l b) {i : Nat} (hi : i + 1 < b.length) : b.getD i 0 < b.getD (i + 1) 0 := by
  rw [getD_at b hi, getD_at b (Nat.lt_of_succ_lt hi)]
  exact List.pairwise_iff_getElem.1 h.few.rise i (i + 1) _ _ (Nat.lt_succ_self i)
theorem cast_erase (b : List Nat) (i : Nat) : (cast b).eraseIdx i = cast (b.eraseIdx i) := by
  unfold cast
  rw [List.eraseIdx_eq_take_drop_succ, List.eraseIdx_eq_take_drop_succ, List.map_append, List.map_take, List.map_drop]

set_option maxHeartbeats 1000000 in
set_option maxRecDepth 100000 in
theorem once_walk (n : Int) (ts : List Nat) (kk : Int) (ao : Option Addr) (c : Nat) (W : World) (hx : IntsAt .u32 W ao (cast ts)) (h32 : ∀ t ∈ ts, t < 4294967296) (hl : ts.length ≤ maxLen) (hT : Tab W) :
    Calls Tryd.prog 5 #[.int .i64 n, .slice ao ts.length c, .int .i64 kk] W fun e w' => e = .returned (.bool true) ∧ Below W.heap.size W w' := by
  have HX := Lib.hid (show ∀ w, Below W.heap.size W w → IntsAt .u32 w ao (cast ts) from fun w hb => hx.below (Nat.le_refl _) hb)
  have HT := Lib.hid (show ∀ w, Below W.heap.size W w → Tab w from fun w hb => hT.on hb)
  have H32 := Lib.hid h32
  have HL := Lib.hid hl
  have HS := Lib.hid (suited_any W hT)
  clear hx h32 hl hT
  go_enter Tryd.func5, Tryd.ntmps5
  go_wp2_with fail
  refine HS.out.mono ?_
  rintro e w1 ⟨rfl, hb1⟩
  have HB1 := Lib.hid hb1
  have HGR := Lib.hid (greedy_any n ts ao c w1 (HX.out _ hb1) H32.out HL.out (HT.out _ hb1))
  clear hb1
  go_wp2_with fail
  refine HGR.out.mono ?_
  rintro e w2 ⟨hp, hb2⟩
  have hb2' := HB1.out.trans (hb2.mono HB1.out.size)
  have HB2 := Lib.hid hb2'
  have HLE := Lib.hid (least_any n ts ao c w2 (HX.out _ hb2') H32.out HL.out (HT.out _ hb2'))
  clear hb2 hb2' HGR
  rcases hp with ⟨hno, rfl⟩ | ⟨hok, v, l, rfl, hgr, v', rfl, how⟩
  · have HNO := Lib.hid hno
    clear hno
    go_wp2_with fail
    refine HLE.out.mono ?_
    rintro e w3 ⟨hp, hb3⟩
    have HB3 := Lib.hid (HB2.out.trans (hb3.mono HB2.out.size))
    clear hb3
    rcases hp with ⟨_, rfl⟩ | ⟨hok, _⟩
    · go_wp2_with fail
      go_ret
      exact ⟨by simp, HB3.out⟩
    · exact absurd hok HNO.out
  · have HOK := Lib.hid hok
    have HG := Lib.hid hgr
    obtain ⟨lo, lc, rfl⟩ := owns_shape how
    have HOW := Lib.hid how
    clear hok hgr how
    rw [cast_len]
    go_wp2_with fail
    refine HLE.out.mono ?_
    rintro e w3 ⟨hp, hb3⟩
    rcases hp with ⟨hno, _⟩ | ⟨_, v, b, rfl, hfew, v', rfl, how⟩
    · exact absurd HOK.out hno
    · have HTO := Lib.hid (show Told2 n ts l b from ⟨HOK.out, HG.out, hfew⟩)
      have hb3' := HB2.out.trans (hb3.mono HB2.out.size)
      obtain ⟨bo, bc, rfl⟩ := owns_shape how
      have hbc := owns_cap how
      rw [cast_len] at hbc
      have HIL := Lib.hid (show IntsAt .i64 w3 lo (cast l) from (IntsAt.of_owns HOW.out).below (Nat.le_refl _) hb3)
      have HIB := Lib.hid (show IntsAt .i64 w3 bo (cast b) from IntsAt.of_owns how)
      have HB3 := Lib.hid hb3'
      have hl12 := HOK.out.2.2.1
      obtain ⟨hbl, hl12', _, _⟩ := told_len H32.out HTO.out
      have HIX := Lib.hid (HX.out w3 hb3')
      have HPA := Lib.hid (show ∀ w, Below W.heap.size W w → Calls Tryd.prog 10 #[.slice ao ts.length c, .int .i64 4095] w (fun e w' => e = .returned (.int .u32 (orAll ts)) ∧ w = w') from fun w hb => by
        have := qpassed_any ts 4095 (by omega) ao c w (HX.out w hb) H32.out hl12
        rw [pass_all hl12] at this
        exact this)
      have HAL := Lib.hid (orAll_lt H32.out)
      have HPA3 := Lib.hid (HPA.out w3 hb3')
      obtain ⟨all, hall⟩ : ∃ all, all = orAll ts := ⟨_, rfl⟩
      rw [← hall] at HPA HPA3 HAL
      have HALL := Lib.hid hall
      clear how hfew hb3 hb3' HLE HOW HT HS hall
      rw [cast_len]
      go_wp2_with fail
      refine HPA3.out.mono ?_
      clear HPA3
      rintro e w' ⟨rfl, rfl⟩
      go_wp2_with fail
      go_loop [12, 13] (fun ov kv => ∃ k o : Nat, kv = .int .i64 k ∧ ov = .int .u32 o ∧ k ≤ l.length ∧ o < 4294967296 ∧ RowKit.Hid (Gr ts o (l.drop k) ∧ Sub o (orAll ts))) (fun _ kv => l.length - (intOf kv).toNat)
      case atStart => exact ⟨0, all, rfl, rfl, by omega, HAL.out, Lib.hid (by rw [HALL.out]; exact ⟨HTO.out.gr, fun _ h => h⟩)⟩
      case round =>
        obtain ⟨k, o, rfl, rfl, hk, ho, HGO⟩ := hrel
        by_cases hlt : k < l.length
        · obtain ⟨g0, gb, gm, gr⟩ := gr_step hlt HGO.out.1
          obtain ⟨la, lof, rfl, hc1⟩ := HIL.out k (by rw [cast_len]; exact hlt)
          rw [cast_get] at hc1
          obtain ⟨b0, hb0⟩ : ∃ b0, b0 = l.getD k 0 := ⟨_, rfl⟩
          rw [← hb0] at hc1 gb gm gr
          obtain ⟨ab, ob, rfl, hc2⟩ := HIX.out b0 (by rw [cast_len]; exact gb)
          rw [cast_get] at hc2
          have htb := get_lt H32.out b0
          have hps := best_pos g0 ho HGO.out.2 gm
          have ha := u32_and_nat (ts.getD b0 0) o htb ho
          have HC := Lib.hid (qones_any (ts.getD b0 0 &&& o) (Nat.lt_of_le_of_lt Nat.and_le_left htb) w3)
          have hand := u32_andNot_nat o (ts.getD b0 0) ho htb
          rw [show (o &&& (4294967295 - ts.getD b0 0)) = dif o (ts.getD b0 0) from rfl] at hand
          have hd32 := dif_lt (b := ts.getD b0 0) ho
          have HNEXT := Lib.hid (show Gr ts (dif o (ts.getD b0 0)) (l.drop (k + 1)) ∧ Sub (dif o (ts.getD b0 0)) (orAll ts) from ⟨gr, HGO.out.2.dif htb⟩)
          have HGM := Lib.hid gm
          obtain ⟨m, hm⟩ : ∃ m, m = ones (ts.getD b0 0 &&& o) := ⟨_, rfl⟩
          rw [← hm] at hps HC HGM
          obtain ⟨x, hxe⟩ : ∃ x, x = ts.getD b0 0 &&& o := ⟨_, rfl⟩
          rw [← hxe] at ha HC
          obtain ⟨o', ho'⟩ : ∃ o', o' = dif o (ts.getD b0 0) := ⟨_, rfl⟩
          rw [← ho'] at hand hd32 HNEXT
          obtain ⟨t, ht⟩ : ∃ t, t = ts.getD b0 0 := ⟨_, rfl⟩
          rw [← ht] at hc2 ha hand
          have hm0 : ((m : Int) == 0) = false := by rw [beq_eq_false_iff_ne]; omega
          clear hm hxe ho' ht htb gr gm HGO hb0
          rcases (show kk < 0 ∨ (ts.length : Int) ≤ kk ∨ ∃ j : Nat, kk = j ∧ j < ts.length by
            by_cases h1 : kk < 0
            · exact .inl h1
            · by_cases h2 : (ts.length : Int) ≤ kk
              · exact .inr (.inl h2)
              · exact .inr (.inr ⟨kk.toNat, by omega, by omega⟩)) with hkk | hkk | ⟨j, rfl, hj⟩
          · have hd1 : decide (0 ≤ kk) = false := by rw [decide_eq_false_iff_not]; omega
            go_wp2_with fail
            refine HC.out.mono ?_
            rintro e w' ⟨rfl, rfl⟩
            go_wp2_with fail
            go_round
            case rel => exact ⟨k + 1, o', by go_num, rfl, by omega, hd32, HNEXT⟩
            case measure => simp [intOf]; omega
          · have hd1 : decide (0 ≤ kk) = true := by rw [decide_eq_true_iff]; omega
            have hd2 : decide (kk < (ts.length : Int)) = false := by rw [decide_eq_false_iff_not]; omega
            go_wp2_with fail
            refine HC.out.mono ?_
            rintro e w' ⟨rfl, rfl⟩
            go_wp2_with fail
            go_round
            case rel => exact ⟨k + 1, o', by go_num, rfl, by omega, hd32, HNEXT⟩
            case measure => simp [intOf]; omega
          · obtain ⟨ab', ob', e', hc3⟩ := HIX.out j (by rw [cast_len]; exact hj)
            cases e'
            rw [cast_get] at hc3
            have htj := get_lt H32.out j
            have ha2 := u32_and_nat (ts.getD j 0) o htj ho
            have HC2 := Lib.hid (qones_any (ts.getD j 0 &&& o) (Nat.lt_of_le_of_lt Nat.and_le_left htj) w3)
            have hle := HGM.out j hj
            obtain ⟨m2, hm2⟩ : ∃ m2, m2 = ones (ts.getD j 0 &&& o) := ⟨_, rfl⟩
            rw [← hm2] at HC2 hle
            obtain ⟨x2, hx2⟩ : ∃ x2, x2 = ts.getD j 0 &&& o := ⟨_, rfl⟩
            rw [← hx2] at ha2 HC2
            obtain ⟨t2, ht2⟩ : ∃ t2, t2 = ts.getD j 0 := ⟨_, rfl⟩
            rw [← ht2] at hc3 ha2
            have hd3 : decide (m < m2) = false := by rw [decide_eq_false_iff_not]; omega
            clear hm2 hx2 ht2 htj HGM
            go_wp2_with fail
            refine HC.out.mono ?_
            rintro e w' ⟨rfl, rfl⟩
            go_wp2_with fail
            refine HC2.out.mono ?_
            rintro e w' ⟨rfl, rfl⟩
            go_wp2_with fail
            go_round
            case rel => exact ⟨k + 1, o', by go_num, rfl, by omega, hd32, HNEXT⟩
            case measure => simp [intOf]; omega
        · obtain rfl : k = l.length := by omega
          obtain rfl := gr_end HGO.out.1
          clear HGO
          go_wp2_with fail
          go_loopw [15] (fun iv wr => ∃ i : Nat, iv = .int .i64 i ∧ i ≤ b.length ∧ RowKit.Hid (Below w3.heap.size w3 wr)) (fun iv _ => b.length - (intOf iv).toNat)
          case atStart => exact ⟨0, rfl, by omega, Lib.hid (Below.refl _ _)⟩
          case round =>
            obtain ⟨i, rfl, hi, HB⟩ := hrel
            by_cases hlt : i < b.length
            · have hW : Below W.heap.size W wr := HB3.out.trans (HB.out.mono HB3.out.size)
              have HLP := less_place bo bc (cast b) i wr (HIB.out.below (Nat.le_refl _) HB.out) (by rw [cast_len]; exact hlt) (by rw [cast_len]; omega) (by rw [cast_len]; exact hbc)
              rw [cast_len, cast_erase] at HLP
              have HLPH := Lib.hid HLP
              have HW := Lib.hid hW
              clear HLP hW
              go_wp2_with fail
              refine HLPH.out.mono ?_
              clear HLPH
              rintro e w5 ⟨v5, rfl, how5, hb5⟩
              obtain ⟨eo, ec, rfl⟩ := owns_shape how5
              have HBW := Lib.hid (HW.out.trans (hb5.mono HW.out.size))
              have HBN := Lib.hid (HB.out.trans (hb5.mono HB.out.size))
              have hel : (b.eraseIdx i).length ≤ 64 := by rw [List.length_eraseIdx]; split <;> omega
              have HLI := lines_any ts (b.eraseIdx i) ao eo c ec w5 (HX.out w5 HBW.out) (IntsAt.of_owns how5) H32.out hl12 hel (fun j hj => HTO.out.few.lt j (List.mem_of_mem_eraseIdx hj))
              have hxa := few_less HTO.out hlt
              rw [← HALL.out] at hxa
              obtain ⟨x, hx⟩ : ∃ x, x = orAt ts (b.eraseIdx i) := ⟨_, rfl⟩
              rw [← hx] at hxa HLI
              obtain ⟨el, hele⟩ : ∃ el, el = (b.eraseIdx i).length := ⟨_, rfl⟩
              rw [← hele] at HLI
              have HLIH := Lib.hid HLI
              have hxe : ((x : Int) == (all : Int)) = false := by rw [beq_eq_false_iff_ne]; omega
              have HPA5 := Lib.hid (show ∀ q, Calls Tryd.prog 10 #[.slice ao ts.length c, .int .i64 4095] (w5.drewN q) (fun e w' => e = .returned (.int .u32 all) ∧ w' = w5.drewN q) from fun q => (HPA.out _ (below_drewN HBW.out q)).mono fun e w' h => ⟨h.1, h.2.symm⟩)
              have hI5 := HIB.out.below (Nat.le_refl _) HBN.out
              rw [cast_len, ← hele]
              clear hx HLI how5 hb5 hel hele
              rcases (show i = 0 ∨ ∃ j, i = j + 1 by cases i <;> simp) with rfl | ⟨j, rfl⟩
              · clear hI5
                go_wp2_with fail
                refine HLIH.out.mono ?_
                rintro e w' ⟨rfl, rfl⟩
                go_wp2_with fail
                go_quiet (first | (go_at_call 10; (with_reducible exact Calls.quiet_of_same (HPA5.out _))))
                go_wp2_with fail
                go_roundw
                case rel => exact ⟨1, by go_num, by omega, Lib.hid (below_drewN HBN.out _)⟩
                case measure => simp [intOf]; omega
              · have hr := few_rise HTO.out hlt
                obtain ⟨ba, oa, rfl, hc1⟩ := hI5 (j + 1) (by rw [cast_len]; exact hlt)
                obtain ⟨bb, ob, e, hc2⟩ := hI5 j (by rw [cast_len]; omega)
                cases e
                rw [cast_get] at hc1 hc2
                obtain ⟨z1, hz1⟩ : ∃ z, z = b.getD (j + 1) 0 := ⟨_, rfl⟩
                obtain ⟨z2, hz2⟩ : ∃ z, z = b.getD j 0 := ⟨_, rfl⟩
                rw [← hz1] at hc1 hr
                rw [← hz2] at hc2 hr
                have hd : decide (z1 ≤ z2) = false := by rw [decide_eq_false_iff_not]; omega
                have hdi : decide ((0 : Int) < ((j + 1 : Nat) : Int)) = true := by rw [decide_eq_true_iff]; omega
                have hsub : ((j + 1 : Nat) : Int) - 1 = (j : Int) := by omega
                clear hz1 hz2 hI5
                go_wp2_with fail
                refine HLIH.out.mono ?_
                rintro e w' ⟨rfl, rfl⟩
                go_wp2_with fail
                go_quiet (first | (go_at_call 10; (with_reducible exact Calls.quiet_of_same (HPA5.out _))))
                go_wp2_with fail
                go_roundw
                case rel => exact ⟨j + 2, by go_num, by omega, Lib.hid (below_drewN HBN.out _)⟩
                case measure => simp [intOf]; omega
            · obtain rfl : i = b.length := by omega
              go_wp2_with fail
              go_ret
              exact ⟨by simp, HB3.out.trans (HB.out.mono HB3.out.size)⟩
end Go.Proofs.YtoneaocjooefiaaDoor
