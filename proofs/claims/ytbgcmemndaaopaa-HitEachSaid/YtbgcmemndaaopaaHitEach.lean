/- assayerlaw4.HitEach. No conditions beyond sizes. -/
import Derived.Test.YtbgcmemndaaopaaHitLeast
import Derived.Deep.CutBlock
namespace Go.Mine.Hit
theorem low_bit (s i : Nat) : (s &&& 4095).testBit i = (s.testBit i && decide (i < 12)) := by
  rw [Nat.testBit_and, show (4095 : Nat) = 2 ^ 12 - 1 by decide, Nat.testBit_two_pow_sub_one]
/-- What has something of each has one of the least hits within. -/
theorem hits_within {ts m : List Nat} (ht : ∀ t ∈ ts, t < 4096) (h : Lst (U ts) m) (s : Nat) : (∃ j, j < m.length ∧ Sub (m.getD j 0) s) ↔ Hits ts s := by
  constructor
  · rintro ⟨j, hj, hs⟩
    exact (h.so (get_mem hj)).2.mono hs
  · intro hh
    have hu : U ts (s &&& 4095) := ⟨by have := Nat.and_le_right (n := s) (m := 4095); omega, fun t hm => by
      obtain ⟨i, h1, h2⟩ := hh t hm
      exact ⟨i, h1, by rw [low_bit, h2, decide_eq_true (bit12 (ht t hm) h1)]; rfl⟩⟩
    obtain ⟨r, hr, hs⟩ := least_under hu
    obtain ⟨j, hj, rfl⟩ := List.mem_iff_getElem.1 ((h.2 r).2 hr)
    refine ⟨j, hj, fun i hi => ?_⟩
    rw [show m.getD j 0 = m[j] by simp [hj]] at hi
    have := hs i hi
    rw [low_bit, Bool.and_eq_true] at this
    exact this.1
theorem so_u32 (t i : Nat) : ((((t : Nat) : Int) / 2 ^ i).tmod 2 == 1) = t.testBit i := by
  have h : (((t : Nat) : Int) / 2 ^ i) = ((t / 2 ^ i : Nat) : Int) := by rw [Int.natCast_ediv, Int.natCast_pow]; rfl
  rw [h, show (2 : Int) = ((2 : Nat) : Int) from rfl, ← Int.ofNat_tmod, Nat.testBit_eq_decide_div_mod_eq, Bool.eq_iff_iff, beq_iff_eq, decide_eq_true_eq]
  omega
end Go.Mine.Hit
namespace Go.Proofs.Ytbgcmemndaaopaa
open Go.RowKit Go.Mine Go.Mine.Hit

theorem pow_u32 : ∀ k, k < 12 → IntKind.u32.wrap ((2 : Int) ^ k) = ((2 ^ k : Nat) : Int) ∧ 2 ^ k < 4294967296 := by decide +kernel

set_option maxHeartbeats 2000000 in
set_option maxRecDepth 100000 in
theorem hitEach_any (ts : List Nat) (s : Nat) (hs : s < 4294967296) (ao : Option Addr) (c : Nat) (W : World) (hx : IntsAt .u32 W ao (cast ts)) (hl : ts.length ≤ maxLen) :
    Calls Try.prog 3 #[.slice ao ts.length c, .int .u32 s] W fun e w' => e = .returned (.bool true) ∧ Below W.heap.size W w' := by
  have HX := Lib.hid (show ∀ w, Below W.heap.size W w → IntsAt .u32 w ao (cast ts) from fun w hb => hx.below (Nat.le_refl _) hb)
  have HL := Lib.hid hl
  have HS := Lib.hid (struck_any W)
  clear hx hl
  go_enter Try.func3, Try.ntmps3
  go_wp2_with fail
  refine HS.out.mono ?_
  clear HS
  rintro e w1 ⟨rfl, hb1⟩
  have HB1 := Lib.hid hb1
  have HM := Lib.hid (hHits_any ts ao c w1 (HX.out _ hb1) HL.out)
  clear hb1
  go_wp2_with fail
  refine HM.out.mono ?_
  clear HM
  rintro e w2 ⟨⟨hok, vm, m, rfl, hlm, hom⟩ | ⟨hno, rfl⟩, hb2⟩
  rotate_left
  · have HB2 := Lib.hid (HB1.out.trans (hb2.mono HB1.out.size))
    obtain ⟨f, hf⟩ : ∃ f, f = fault ts := ⟨_, rfl⟩
    rw [← hf]
    clear hf hno hb2
    go_wp2_with fail
    go_ret
    exact ⟨rfl, HB2.out⟩
  · obtain ⟨am, cm, rfl⟩ := owns_shape hom
    obtain ⟨wk, hwk⟩ : ∃ wk, wk = w2 := ⟨_, rfl⟩
    subst hwk
    have HB2 := Lib.hid (HB1.out.trans (hb2.mono HB1.out.size))
    have HOM := Lib.hid (IntsAt.of_owns hom)
    have HXK := Lib.hid (HX.out _ HB2.out)
    have HLM := Lib.hid hlm
    have HOK := Lib.hid hok
    have H32 := Lib.hid (show ∀ t ∈ ts, t < 4294967296 from fun t ht => by have := hok.2 t ht; omega)
    have hml : m.length ≤ 4096 := hlm.len
    have htl : ts.length ≤ 20 := hok.1
    have HGL := Lib.hid (show ∀ a, m.getD a 0 < 4096 from fun a => get_lt (by decide) (fun x hx => (hlm.so hx).1) a)
    have HWI := Lib.hid (hits_within hok.2 hlm s)
    clear hom hlm hok hb2
    go_wp2_with fail
    go_loopw [8] (fun av wr => ∃ (a nq : Nat), av = .int .i64 (a : Int) ∧ a ≤ m.length ∧ RowKit.Hid (wr = wk.drewN nq)) (fun av _ => m.length - (intOf av).toNat)
    case atStart => exact ⟨0, 0, rfl, by omega, Lib.hid (drewN_zero wk).symm⟩
    case round =>
      obtain ⟨a, nq, rfl, ha, hwr⟩ := hrel
      by_cases hlt : a < m.length
      · have hlt2 : (a : Int) < (m.length : Int) := by omega
        obtain ⟨mb, mo, rfl, hca0⟩ := HOM.out a (by rw [cast_len]; exact hlt)
        rw [cast_get] at hca0
        have hxa := HGL.out a
        have hlx := (HLM.out.2 _).1 (get_mem hlt)
        have HPR := Lib.hid (show ∀ k, k + 1 = a → m.getD k 0 < m.getD a 0 from fun k hk => rise_get HLM.out.1 (by omega) hlt)
        obtain ⟨x, hxd⟩ : ∃ x, x = m.getD a 0 := ⟨_, rfl⟩
        rw [← hxd] at hca0 hxa hlx HPR
        have hca : wr.cell? ⟨mb, mo + a, none⟩ = some (.int .u32 (x : Int)) := by rw [hwr.out]; exact hca0
        have HDR := Lib.hid ((least_drop hxa).1 hlx)
        have hyes : hitsB ts x = true := hitsB_iff.2 hlx.1.2
        have HA := Lib.hid (show ∀ q, Calls Try.prog 8 #[.slice ao ts.length c, .int .u32 (x : Int)] (wr.drewN q) (fun e w' => e = .returned (.bool true) ∧ w' = wr.drewN q) from fun q => by
          have h := hitsAll_any ts x ao c (wr.drewN q) (by rw [hwr.out]; exact HXK.out) H32.out (by omega) HL.out
          rw [hyes] at h
          exact h.mono fun e w' h => ⟨h.1, h.2.symm⟩)
        have HWR := Lib.hid hwr.out
        have HXD := Lib.hid hxd
        clear hxd hwr hyes hlx hca0
        have hmeet : ∃ n, wr = wk.drewN n := ⟨_, HWR.out⟩
        go_upto_region 10 with fail
        go_cut [53] from 31 to 53 (fun v wx => v = .bool false ∧ RowKit.Hid (∃ n, wx = wk.drewN n))
        case first =>
          by_cases ha0 : a = 0
          · subst ha0
            rw [Nat.add_zero] at hca
            go_quiet (first | (go_at_call 8; (with_reducible exact Calls.quiet_of_same (HA.out _))))
            go_wp2_with fail
            go_meet
            exact ⟨rfl, Lib.hid ⟨_, by rw [HWR.out]; first | rfl | exact drewN_drewN _ _ _⟩⟩
          · obtain ⟨k, rfl⟩ : ∃ k, a = k + 1 := ⟨a - 1, by omega⟩
            obtain ⟨mb', mo', he, hcb0⟩ := HOM.out k (by rw [cast_len]; omega)
            cases he
            rw [cast_get] at hcb0
            have hcb : wr.cell? ⟨mb, mo + k, none⟩ = some (.int .u32 ((m.getD k 0 : Nat) : Int)) := by rw [HWR.out]; exact hcb0
            have hyx := HPR.out k rfl
            obtain ⟨y, hyd⟩ : ∃ y, y = m.getD k 0 := ⟨_, rfl⟩
            rw [← hyd] at hcb hyx
            have hd : decide ((x : Int) ≤ (y : Int)) = false := by rw [decide_eq_false_iff_not]; omega
            have hd2 : decide (x ≤ y) = false := by rw [decide_eq_false_iff_not]; omega
            have hdi : decide ((0 : Int) < ((k + 1 : Nat) : Int)) = true := by rw [decide_eq_true_iff]; omega
            have hsub : ((k + 1 : Nat) : Int) - 1 = (k : Int) := by omega
            clear hyd hcb0 ha0
            go_quiet (first | (go_at_call 8; (with_reducible exact Calls.quiet_of_same (HA.out _))))
            go_wp2_with fail
            go_meet
            exact ⟨rfl, Lib.hid ⟨_, by rw [HWR.out]; first | rfl | exact drewN_drewN _ _ _⟩⟩
        case rest =>
          obtain ⟨rfl, hwc⟩ := hcut
          obtain ⟨n1, hn1⟩ := hwc.out
          have HWC := Lib.hid hn1
          clear hwc hn1
          go_wp2_with fail
          go_loopw [9] (fun kv wr => ∃ (k : Nat), kv = .int .i64 (k : Int) ∧ k ≤ 12 ∧ RowKit.Hid (∃ n, wr = wk.drewN n)) (fun kv _ => 12 - (intOf kv).toNat)
          case atStart => exact ⟨0, rfl, by omega, Lib.hid ⟨n1, HWC.out⟩⟩
          case round =>
            obtain ⟨k, rfl, hk, hwr⟩ := hrel
            obtain ⟨n2, hn2⟩ := hwr.out
            have HWR2 := Lib.hid hn2
            clear hwr hn2
            by_cases hk12 : k < 12
            · have hk2 : (k : Int) < 12 := by omega
              have hca2 : wr.cell? ⟨mb, mo + a, none⟩ = some (.int .u32 (x : Int)) := by
                obtain ⟨mb', mo', he, h⟩ := HOM.out a (by rw [cast_len]; exact hlt)
                cases he
                rw [cast_get, ← HXD.out] at h
                rw [HWR2.out]
                exact h
              obtain ⟨bb, hbb⟩ : ∃ bb, bb = x.testBit k := ⟨_, rfl⟩
              have hso := so_u32 x k
              rw [← hbb] at hso
              obtain ⟨hp1, hp2⟩ := pow_u32 k hk12
              cases bb
              · clear hbb
                go_wp2_with fail
                go_roundw
                case rel => exact ⟨k + 1, by go_num, by omega, Lib.hid ⟨n2, HWR2.out⟩⟩
                case measure => simp [intOf]; omega
              · have hn1 := u32_andNot_nat x (2 ^ k) (by omega) hp2
                have hdk := HDR.out.2 k hk12 hbb.symm
                have HA2 := Lib.hid (hitsAll_any ts (drop x k) ao c wr (by rw [HWR2.out]; exact HXK.out) H32.out (by have := (drop_sub hxa hk12).le; omega) HL.out)
                rw [hitsB_false.2 hdk] at HA2
                unfold drop at HA2
                obtain ⟨q, hq⟩ : ∃ q, q = 2 ^ k := ⟨_, rfl⟩
                rw [← hq] at hn1 hp1 HA2
                obtain ⟨z, hz⟩ : ∃ z, z = x &&& (4294967295 - q) := ⟨_, rfl⟩
                rw [← hz] at hn1 HA2
                clear hbb hdk hq hz hp2
                go_wp2_with fail
                refine HA2.out.mono ?_
                clear HA2
                rintro e w' ⟨rfl, rfl⟩
                go_wp2_with fail
                go_roundw
                case rel => exact ⟨k + 1, by go_num, by omega, Lib.hid ⟨n2, HWR2.out⟩⟩
                case measure => simp [intOf]; omega
            · obtain rfl : k = 12 := by omega
              go_wp2_with fail
              go_roundw
              case rel => exact ⟨a + 1, n2, by go_num, by omega, HWR2⟩
              case measure => simp [intOf]; omega
      · obtain rfl : a = m.length := by omega
        have HWR := Lib.hid hwr.out
        clear hwr
        go_wp2_with fail
        go_loopw [10, 11] (fun wv av wr => ∃ (b nq : Nat) (wb : Bool), wv = .bool wb ∧ av = .int .i64 (b : Int) ∧ b ≤ m.length ∧ RowKit.Hid (wb = true ↔ ∃ j, j < b ∧ Sub (m.getD j 0) s) ∧ RowKit.Hid (wr = wk.drewN nq)) (fun _ av _ => m.length - (intOf av).toNat)
        case atStart => exact ⟨0, nq, false, rfl, rfl, by omega, Lib.hid (by simp), HWR⟩
        case round =>
          obtain ⟨b, nq, wb, rfl, rfl, hb, hwb, hwr⟩ := hrel
          by_cases hlt : b < m.length
          · have hlt2 : (b : Int) < (m.length : Int) := by omega
            obtain ⟨mb, mo, rfl, hc0⟩ := HOM.out b (by rw [cast_len]; exact hlt)
            rw [cast_get] at hc0
            have hxa := HGL.out b
            have hn1 := u32_andNot_nat (m.getD b 0) s (by omega) hs
            have hsub := andn_zero (a := m.getD b 0) (b := s) (by omega) hs
            obtain ⟨p, hp⟩ : ∃ p, p = m.getD b 0 &&& (4294967295 - s) := ⟨_, rfl⟩
            rw [← hp] at hn1 hsub
            have HNW := Lib.hid (show ∀ r : Bool, (r = true ↔ wb = true ∨ p = 0) → (r = true ↔ ∃ j, j < b + 1 ∧ Sub (m.getD j 0) s) from fun r hr => by
              rw [hr, hwb.out, hsub]
              constructor
              · rintro (⟨j, hj, h⟩ | h)
                · exact ⟨j, by omega, h⟩
                · exact ⟨b, by omega, h⟩
              · rintro ⟨j, hj, h⟩
                by_cases e : j = b
                · subst e; exact .inr h
                · exact .inl ⟨j, by omega, h⟩)
            obtain ⟨x, hxd⟩ : ∃ x, x = m.getD b 0 := ⟨_, rfl⟩
            rw [← hxd] at hc0 hn1 hxa
            have hca : wr.cell? ⟨mb, mo + b, none⟩ = some (.int .u32 (x : Int)) := by rw [hwr.out]; exact hc0
            have HWR2 := Lib.hid hwr.out
            clear hsub hp hwb hxd hc0 hwr
            cases wb
            · by_cases hp0 : p = 0
              · subst hp0
                have hd : (((0 : Nat) : Int) == 0) = true := by decide
                go_wp2_with fail
                go_roundw
                case rel => exact ⟨b + 1, nq, true, rfl, by go_num, by omega, Lib.hid (HNW.out true (by simp)), HWR2⟩
                case measure => simp [intOf]; omega
              · have hd : ((p : Int) == 0) = false := by rw [beq_eq_false_iff_ne]; omega
                have hd2 : decide ((p : Int) = 0) = false := by rw [decide_eq_false_iff_not]; omega
                have hd3 : (p == 0) = false := by rw [beq_eq_false_iff_ne]; omega
                go_wp2_with fail
                go_roundw
                case rel => exact ⟨b + 1, nq, false, rfl, by go_num, by omega, Lib.hid (HNW.out false (by simp [hp0])), HWR2⟩
                case measure => simp [intOf]; omega
            · go_wp2_with fail
              go_roundw
              case rel => exact ⟨b + 1, nq, true, rfl, by go_num, by omega, Lib.hid (HNW.out true (by simp)), HWR2⟩
              case measure => simp [intOf]; omega
          · obtain rfl : b = m.length := by omega
            have HB3 := Lib.hid (show Below W.heap.size W wr by rw [hwr.out]; exact below_drewN HB2.out nq)
            have hwe : wb = hitsB ts s := by
              rw [Bool.eq_iff_iff, hwb.out, HWI.out, hitsB_iff]
            have HA3 := Lib.hid (hitsAll_any ts s ao c wr (by rw [hwr.out]; exact HXK.out) H32.out hs HL.out)
            rw [← hwe] at HA3
            have hbb : (wb == wb) = true := by simp
            clear hwe hwb hwr
            go_wp2_with fail
            refine HA3.out.mono ?_
            rintro e w' ⟨rfl, rfl⟩
            go_wp2_with fail
            go_ret
            exact ⟨by simp, HB3.out⟩
end Go.Proofs.Ytbgcmemndaaopaa
