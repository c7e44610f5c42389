/- assayerref2.GreedyOf. No conditions beyond sizes. -/
import Derived.Test.YtoneaocjooefiaaDoorSuite11
namespace Go.Proofs.YtoneaocjooefiaaDoor
open Go.RowKit Go.Mine Go.Mine.Suite

theorem pass_pow {ts : List Nat} : passN ts (2 ^ ts.length - 1) ts.length = orAll ts := by
  refine Nat.eq_of_testBit_eq fun j => ?_
  rw [passN_bit, orAll_bit, Bool.eq_iff_iff, List.any_eq_true, List.any_eq_true]
  constructor
  · rintro ⟨i, hi, h⟩
    have hi := List.mem_range.1 hi
    rw [Bool.and_eq_true, show ts.getD i 0 = ts[i] by simp [hi]] at h
    exact ⟨ts[i], List.getElem_mem hi, h.2⟩
  · rintro ⟨t, ht, h⟩
    obtain ⟨i, hi, rfl⟩ := List.mem_iff_getElem.1 ht
    refine ⟨i, List.mem_range.2 hi, ?_⟩
    rw [Nat.testBit_two_pow_sub_one, decide_eq_true hi, show ts.getD i 0 = ts[i] by simp [hi], h]; rfl
theorem shl_less : ∀ n, n < 13 → wrap64 (wrap64 ((2 : Int) ^ n) - 1) = ((2 ^ n - 1 : Nat) : Int) ∧ 2 ^ n - 1 < 4294967296 := by decide +kernel

set_option maxHeartbeats 2000000 in
set_option maxRecDepth 100000 in
theorem greedyOf_any (ts : List Nat) (ao : Option Addr) (c : Nat) (W : World) (hx : IntsAt .u32 W ao (cast ts)) (h32 : ∀ t ∈ ts, t < 4294967296) (hl12 : ts.length ≤ 12) :
    Calls Tryd.prog 18 #[.slice ao ts.length c] W fun e w' => (∃ v l, e = .returned v ∧ Gr ts (orAll ts) l ∧ OwnIs w' W.heap.size v (cast l)) ∧ Below W.heap.size W w' := by
  obtain ⟨i0, hi0, hz0, hz1, hz2⟩ := info_parts info3
  obtain ⟨hsh, hv⟩ := shl_less ts.length (by omega)
  have HX := Lib.hid hx
  have H32 := Lib.hid h32
  have HP := Lib.hid (qpassed_any ts (2 ^ ts.length - 1) hv ao c W hx h32 hl12)
  rw [pass_pow] at HP
  obtain ⟨vv, hvv⟩ : ∃ vv, vv = 2 ^ ts.length - 1 := ⟨_, rfl⟩
  rw [← hvv] at HP hsh
  have HSH := Lib.hid hsh
  clear hx h32 hsh hv hvv
  go_enter Tryd.func18, Tryd.ntmps18
  have HO := Lib.hid (show orAll ts < 4294967296 from orAll_lt H32.out)
  obtain ⟨all, hall⟩ : ∃ all, all = orAll ts := ⟨_, rfl⟩
  rw [← hall] at HP HO
  have HALL := Lib.hid hall
  clear hall
  go_wp2_with fail
  rw [HSH.out]
  refine HP.out.mono ?_
  clear HP HSH
  rintro e w' ⟨rfl, rfl⟩
  go_wp2_with fail
  go_loopw [3, 4] (fun ov v0 wr => ∃ (o : Nat) (l : List Nat), ov = .int .u32 o ∧ o < 4294967296 ∧ RowKit.Hid (Sub o (orAll ts) ∧ l.length + ones o ≤ 32 ∧ ∀ r, Gr ts o r → Gr ts (orAll ts) (l ++ r)) ∧ OwnIs wr W.heap.size v0 (cast l) ∧ Below W.heap.size W wr) (fun ov _ _ => ones (intOf ov).toNat)
  case atStart => exact ⟨all, [], rfl, HO.out, Lib.hid ⟨by rw [HALL.out]; exact fun i hi => hi, by have := ones_le all; simpa using this, fun r hr => by rw [← HALL.out]; exact hr⟩, ⟨_, rfl, World.ownsRow_nil _ _ _ _⟩, Below.refl _ _⟩
  clear HO
  case round =>
    obtain ⟨o, l, rfl, ho, hinv, ⟨v, rfl, hown⟩, hb⟩ := hrel
    have hll : (cast l).length = l.length := cast_len l
    have hl32 : l.length ≤ 32 := by have := hinv.out.2.1; omega
    by_cases h0 : o = 0
    · subst h0
      have HG := Lib.hid (show Gr ts (orAll ts) l by have := hinv.out.2.2 [] .nil; simpa using this)
      have HOW := Lib.hid hown
      obtain ⟨ro, rc, rfl⟩ := owns_shape hown
      clear hown hinv
      go_wp2_with fail
      go_ret
      exact ⟨⟨_, l, rfl, HG.out, ⟨_, rfl, HOW.out⟩⟩, hb⟩
    · have hne : ((o : Int) != 0) = true := by rw [bne_iff_ne]; omega
      have hts0 : 0 < ts.length := by
        obtain ⟨i, hi⟩ := Nat.exists_testBit_of_ne_zero h0
        have h1 := hinv.out.1 i hi
        rw [orAll_bit, List.any_eq_true] at h1
        obtain ⟨t, ht, _⟩ := h1
        exact List.length_pos_of_mem ht
      have HOWN := Lib.hid hown
      have HB := Lib.hid hb
      have HXW := Lib.hid (HX.out.below (Nat.le_refl _) hb)
      have H0 := Lib.hid h0
      obtain ⟨wo, hwo⟩ : ∃ wo : World, wo = wr := ⟨_, rfl⟩
      rw [← hwo] at HOWN HB HXW ⊢
      clear hwo hown hb h0 wr
      go_wp2_with fail
      go_loopw [5, 6] (fun bv iv wr => ∃ b i q : Nat, bv = .int .i64 b ∧ iv = .int .i64 i ∧ i ≤ ts.length ∧ b < ts.length ∧ RowKit.Hid ((∀ j, j < i → ones (ts.getD j 0 &&& o) ≤ ones (ts.getD b 0 &&& o)) ∧ (∀ j, j < b → ones (ts.getD j 0 &&& o) < ones (ts.getD b 0 &&& o))) ∧ wr = wo.drewN q) (fun _ iv _ => ts.length - (intOf iv).toNat)
      case atStart => exact ⟨0, 0, 0, rfl, rfl, by omega, hts0, Lib.hid ⟨fun j hj => by omega, fun j hj => by omega⟩, (drewN_zero wo).symm⟩
      case round =>
        obtain ⟨b, i, q, rfl, rfl, hi, hbl, hbst, hwr⟩ := hrel
        have hxr : IntsAt .u32 wr ao (cast ts) := by rw [hwr]; exact HXW.out
        by_cases hlt : i < ts.length
        · obtain ⟨ba, oa, rfl, hc1⟩ := hxr i (by rw [cast_len]; exact hlt)
          obtain ⟨bb, ob, e, hc2⟩ := hxr b (by rw [cast_len]; exact hbl)
          cases e
          rw [cast_get] at hc1 hc2
          have hti := get_lt H32.out i
          have htb := get_lt H32.out b
          have ha1 := u32_and_nat (ts.getD i 0) o hti ho
          have ha2 := u32_and_nat (ts.getD b 0) o htb ho
          have HC1 := Lib.hid (fun w => (qones_any (ts.getD i 0 &&& o) (Nat.lt_of_le_of_lt Nat.and_le_left hti) w).mono fun e w' h => (⟨h.1, h.2.symm⟩ : _ ∧ w' = w))
          have HC2 := Lib.hid (fun w => (qones_any (ts.getD b 0 &&& o) (Nat.lt_of_le_of_lt Nat.and_le_left htb) w).mono fun e w' h => (⟨h.1, h.2.symm⟩ : _ ∧ w' = w))
          have hc1' := ones_le (ts.getD i 0 &&& o)
          have hc2' := ones_le (ts.getD b 0 &&& o)
          have HN := Lib.hid (show ones (ts.getD b 0 &&& o) < ones (ts.getD i 0 &&& o) → (∀ j, j < i + 1 → ones (ts.getD j 0 &&& o) ≤ ones (ts.getD i 0 &&& o)) ∧ (∀ j, j < i → ones (ts.getD j 0 &&& o) < ones (ts.getD i 0 &&& o)) from fun h => ⟨fun j hj => by
            by_cases e : j = i
            · subst e; exact Nat.le_refl _
            · have := hbst.out.1 j (by omega); omega, fun j hj => by have := hbst.out.1 j (by omega); omega⟩)
          have HK := Lib.hid (show ¬ ones (ts.getD b 0 &&& o) < ones (ts.getD i 0 &&& o) → (∀ j, j < i + 1 → ones (ts.getD j 0 &&& o) ≤ ones (ts.getD b 0 &&& o)) ∧ (∀ j, j < b → ones (ts.getD j 0 &&& o) < ones (ts.getD b 0 &&& o)) from fun h => ⟨fun j hj => by
            by_cases e : j = i
            · subst e; omega
            · exact hbst.out.1 j (by omega), hbst.out.2⟩)
          obtain ⟨c1, hd1⟩ : ∃ c1, c1 = ones (ts.getD i 0 &&& o) := ⟨_, rfl⟩
          obtain ⟨c2, hd2⟩ : ∃ c2, c2 = ones (ts.getD b 0 &&& o) := ⟨_, rfl⟩
          rw [← hd1] at HC1 hc1' HN HK
          rw [← hd2] at HC2 hc2' HN HK
          have HD1 := Lib.hid hd1
          have HD2 := Lib.hid hd2
          clear hd1 hd2
          obtain ⟨x1, hx1⟩ : ∃ x1, x1 = ts.getD i 0 &&& o := ⟨_, rfl⟩
          obtain ⟨x2, hx2⟩ : ∃ x2, x2 = ts.getD b 0 &&& o := ⟨_, rfl⟩
          rw [← hx1] at ha1 HC1 HD1
          rw [← hx2] at ha2 HC2 HD2
          have HX1 := Lib.hid hx1
          have HX2 := Lib.hid hx2
          obtain ⟨t1, ht1⟩ : ∃ t1, t1 = ts.getD i 0 := ⟨_, rfl⟩
          obtain ⟨t2, ht2⟩ : ∃ t2, t2 = ts.getD b 0 := ⟨_, rfl⟩
          rw [← ht1] at ha1 hc1 hti
          rw [← ht2] at ha2 hc2 htb
          have HWR := Lib.hid hwr
          clear hx1 hx2 ht1 ht2 hbst hwr hxr
          by_cases hcc : c2 < c1
          · have HG := Lib.hid (HN.out hcc)
            have hd : decide (c2 < c1) = true := by rw [decide_eq_true_iff]; exact hcc
            go_wp2_with fail
            go_quiet (first | (go_at_call 13; (with_reducible exact Calls.quiet_of_same (HC1.out _))) | (go_at_call 13; (with_reducible exact Calls.quiet_of_same (HC2.out _))))
            go_wp2_with fail
            go_roundw
            case rel => exact ⟨i, i + 1, _, rfl, by go_num, by omega, hlt, Lib.hid (by
              have := HG.out
              rw [HD1.out, HX1.out] at this
              exact this), by rw [HWR.out]; exact drewN_drewN _ _ _⟩
            case measure => simp [intOf]; omega
          · have HG := Lib.hid (HK.out hcc)
            have hd : decide (c2 < c1) = false := by rw [decide_eq_false_iff_not]; exact hcc
            go_wp2_with fail
            go_quiet (first | (go_at_call 13; (with_reducible exact Calls.quiet_of_same (HC1.out _))) | (go_at_call 13; (with_reducible exact Calls.quiet_of_same (HC2.out _))))
            go_wp2_with fail
            go_roundw
            case rel => exact ⟨b, i + 1, _, rfl, by go_num, by omega, hbl, Lib.hid (by
              have := HG.out
              rw [HD2.out, HX2.out] at this
              exact this), by rw [HWR.out]; exact drewN_drewN _ _ _⟩
            case measure => simp [intOf]; omega
        · obtain rfl : i = ts.length := by omega
          have htb := get_lt H32.out b
          have hps := best_pos H0.out ho hinv.out.1 hbst.out.1
          have hless := dif_less ho htb hps
          have HINV := Lib.hid (show Sub (dif o (ts.getD b 0)) (orAll ts) ∧ (l ++ [b]).length + ones (dif o (ts.getD b 0)) ≤ 32 ∧ ∀ r, Gr ts (dif o (ts.getD b 0)) r → Gr ts (orAll ts) ((l ++ [b]) ++ r) from ⟨hinv.out.1.dif htb, by have := hinv.out.2.1; rw [List.length_append, List.length_singleton]; omega, fun r hr => by
            have := hinv.out.2.2 (b :: r) (.cons H0.out hbl hbst.out.1 hbst.out.2 hr)
            simpa using this⟩)
          have hand := u32_andNot_nat o (ts.getD b 0) ho htb
          rw [show (o &&& (4294967295 - ts.getD b 0)) = dif o (ts.getD b 0) from rfl] at hand
          have hd32 := dif_lt (b := ts.getD b 0) ho
          have hsz := HB.out.size
          have HOR := Lib.hid (show (wr.alloc (.cells #[.int .i64 b] 3)).ownsRow W.heap.size 3 1 v (cast l).length ((cast l).map (Value.int .i64)) from by rw [hwr]; exact (owns_below HOWN.out (below_drewN (Below.refl _ _) q)).alloc _)
          have HBR := Lib.hid (show Below W.heap.size W wr from by rw [hwr]; exact below_drewN HB.out q)
          have hszr := HBR.out.size
          have HEM := Lib.hid (show (cast l).map (Value.int .i64) ++ [.int .i64 b] = (cast (l ++ [b])).map (Value.int .i64) by simp [cast])
          have HEL := Lib.hid (show (cast l).length + 1 = (cast (l ++ [b])).length by simp [cast])
          have hcl : (cast l).length ≤ 32 := by rw [cast_len]; exact hl32
          have HLESS := Lib.hid hless
          obtain ⟨t, ht⟩ : ∃ t, t = ts.getD b 0 := ⟨_, rfl⟩
          rw [← ht] at htb HINV hand hd32 HLESS
          obtain ⟨o', ho'⟩ : ∃ o', o' = dif o t := ⟨_, rfl⟩
          rw [← ho'] at HINV hand hd32 HLESS
          have HT1 := Lib.hid ht
          clear hps hless hbst hinv ht ho' hwr hi hlt hll
          go_wp2_with (at_builtin; refine wpList_push _ rfl _ _ 24 rfl W.heap.size 3 i0 (.int .i64 0) 1 8 Tryd.underlying24 hi0 hz0 hz1 hz2 rfl (by decide) _ _ _ rfl HOR.out ⟨wr.heap.size, 0, none⟩ 1 [.int .i64 b] rfl rfl (cell_one_new _ _ _) (one1 _ _) (by unfold maxLen; omega) (by omega) (by simp; omega) ?_)
          intro g cap w7 ho7 hg7
          have hb7 := (HBR.out.alloc hszr (.cells #[.int .i64 b] 3)).grown hg7 (by simp; omega) (fun k hk => (HOR.out.lt k hk).1)
          rw [HEM.out, HEL.out] at ho7
          have HO7 := Lib.hid ho7
          obtain ⟨ba, oa, rfl, hc⟩ := (HX.out.below (Nat.le_refl _) hb7) b (by rw [cast_len]; exact hbl)
          rw [cast_get, ← HT1.out] at hc
          have HB7 := Lib.hid hb7
          have hel := HEL.out
          clear ho7 hb7 hg7
          go_wp2_with fail
          go_roundw
          case rel => exact ⟨o', l ++ [b], rfl, hd32, HINV, ⟨_, rfl, by rw [← HEL.out] at HO7 ⊢; exact HO7.out⟩, HB7.out⟩
          case measure => simpa [intOf] using HLESS.out
end Go.Proofs.YtoneaocjooefiaaDoor
