/- assayerref2.HitFault, LeastSets, HitsOf. No conditions beyond sizes. -/
import Derived.Test.YtbgcmemndaaopaaDoorHitA
namespace Go.Mine.Hit
def thereB (ts : List Nat) (s : Nat) : Bool := ts.any fun t => t == s
def withinB (ts : List Nat) (s : Nat) : Bool := ts.any fun t => t != s && t &&& (4294967295 - s) == 0
def qleast (ts : List Nat) (m : Nat) : List Nat := (List.range m).filter fun s => thereB ts s && !withinB ts s
def isB (ts : List Nat) (s : Nat) : Nat → Bool
  | 0 => hitsB ts s
  | k + 1 => isB ts s k && !(s.testBit k && hitsB ts (drop s k))
def qhits (ts : List Nat) (m : Nat) : List Nat := (List.range m).filter fun s => isB ts s 12
theorem qleast_succ (ts : List Nat) (m : Nat) : qleast ts (m + 1) = qleast ts m ++ (if (thereB ts m && !withinB ts m) = true then [m] else []) := by
  unfold qleast
  rw [List.range_succ, List.filter_append]
  congr 1
  cases h : thereB ts m && !withinB ts m <;> simp [List.filter, h]
theorem qhits_succ (ts : List Nat) (m : Nat) : qhits ts (m + 1) = qhits ts m ++ (if isB ts m 12 = true then [m] else []) := by
  unfold qhits
  rw [List.range_succ, List.filter_append]
  congr 1
  cases h : isB ts m 12 <;> simp [List.filter, h]
theorem qleast_len (ts : List Nat) (m : Nat) : (qleast ts m).length ≤ m := by
  have := List.length_filter_le (fun s => thereB ts s && !withinB ts s) (List.range m)
  rwa [List.length_range] at this
theorem qhits_len (ts : List Nat) (m : Nat) : (qhits ts m).length ≤ m := by
  have := List.length_filter_le (fun s => isB ts s 12) (List.range m)
  rwa [List.length_range] at this
theorem qleast_lst {ts : List Nat} (h : ∀ t ∈ ts, t < 4096) : Lst (· ∈ ts) (qleast ts 4096) := by
  refine ⟨List.pairwise_lt_range.filter _, fun s => ?_⟩
  unfold qleast
  rw [List.mem_filter, List.mem_range, Bool.and_eq_true, Bool.not_eq_true']
  have h1 : thereB ts s = true ↔ s ∈ ts := by
    unfold thereB
    rw [List.any_eq_true]
    exact ⟨fun ⟨t, ht, e⟩ => by rw [beq_iff_eq] at e; rwa [← e], fun hs => ⟨s, hs, by simp⟩⟩
  constructor
  · rintro ⟨hs, h2, h3⟩
    refine ⟨h1.1 h2, fun t ht hsub => Decidable.byContradiction fun hne => ?_⟩
    unfold withinB at h3
    rw [List.any_eq_false] at h3
    apply h3 t ht
    rw [Bool.and_eq_true, bne_iff_ne, beq_iff_eq]
    exact ⟨hne, (andn_zero (by have := h t ht; omega) (by omega)).2 hsub⟩
  · rintro ⟨h2, h3⟩
    have hs := h s h2
    refine ⟨hs, h1.2 h2, ?_⟩
    unfold withinB
    rw [List.any_eq_false]
    intro t ht hc
    rw [Bool.and_eq_true, bne_iff_ne, beq_iff_eq] at hc
    exact hc.1 (h3 t ht ((andn_zero (by have := h t ht; omega) (by omega)).1 hc.2))
theorem isB_iff (ts : List Nat) (s : Nat) : ∀ k, isB ts s k = true ↔ Hits ts s ∧ ∀ j, j < k → s.testBit j = true → ¬ Hits ts (drop s j)
  | 0 => by rw [isB, hitsB_iff]; simp
  | k + 1 => by
    rw [isB, Bool.and_eq_true, isB_iff ts s k, Bool.not_eq_true', Bool.and_eq_false_iff, hitsB_false]
    constructor
    · rintro ⟨⟨h1, h2⟩, h3⟩
      refine ⟨h1, fun j hj hb => ?_⟩
      by_cases e : j = k
      · subst e
        rcases h3 with h | h
        · rw [hb] at h; cases h
        · exact h
      · exact h2 j (by omega) hb
    · rintro ⟨h1, h2⟩
      refine ⟨⟨h1, fun j hj hb => h2 j (by omega) hb⟩, ?_⟩
      cases hb : s.testBit k
      · exact .inl rfl
      · exact .inr (h2 k (by omega) hb)
theorem qhits_lst (ts : List Nat) : Lst (U ts) (qhits ts 4096) := by
  refine ⟨List.pairwise_lt_range.filter _, fun s => ?_⟩
  unfold qhits
  rw [List.mem_filter, List.mem_range, isB_iff]
  constructor
  · rintro ⟨hs, h⟩; exact (least_drop hs).2 h
  · intro h; exact ⟨h.1.1, (least_drop h.1.1).1 h⟩
theorem isB_stop {ts : List Nat} {s k : Nat} (h : isB ts s k = false) : ∀ m, isB ts s (k + m) = false
  | 0 => h
  | m + 1 => by rw [← Nat.add_assoc, isB, isB_stop h m]; rfl
theorem any_take (p : Nat → Bool) {ts : List Nat} {k : Nat} (hk : k < ts.length) : (ts.take (k + 1)).any p = ((ts.take k).any p || p (ts.getD k 0)) := by
  rw [take_snoc hk, List.any_append]; simp
theorem so_u32q (t i : Nat) : ((((t : Nat) : Int) / 2 ^ i).tmod 2 == 1) = t.testBit i := by
  have h : (((t : Nat) : Int) / 2 ^ i) = ((t / 2 ^ i : Nat) : Int) := by rw [Int.natCast_ediv, Int.natCast_pow]; rfl
  rw [h, show (2 : Int) = ((2 : Nat) : Int) from rfl, ← Int.ofNat_tmod, Nat.testBit_eq_decide_div_mod_eq, Bool.eq_iff_iff, beq_iff_eq, decide_eq_true_eq]
  omega
end Go.Mine.Hit
namespace Go.Proofs.YtbgcmemndaaopaaDoor
open Go.RowKit Go.Mine Go.Mine.Hit

theorem pow_u32q : ∀ k, k < 12 → IntKind.u32.wrap ((2 : Int) ^ k) = ((2 ^ k : Nat) : Int) ∧ 2 ^ k < 4294967296 := by decide +kernel

set_option maxHeartbeats 1000000 in
theorem qfault_any (ts : List Nat) (ao : Option Addr) (c : Nat) (W : World) (hx : IntsAt .u32 W ao (cast ts)) (hl : ts.length ≤ maxLen) :
    Calls Tryd.prog 5 #[.slice ao ts.length c] W fun e w' => e = .returned (.int .i64 (fault ts)) ∧ W = w' := by
  unfold maxLen at hl
  by_cases h3 : 20 < ts.length
  · have HF := Lib.hid (show fault ts = 4 by unfold fault; rw [if_pos h3])
    clear hx
    go_enter Tryd.func5, Tryd.ntmps5
    go_wp2_with fail
    go_ret
    exact ⟨by rw [HF.out]; rfl, rfl⟩
  · have HX := Lib.hid hx
    clear hx
    go_enter Tryd.func5, Tryd.ntmps5
    go_wp2_with fail
    go_loop [3] (fun kv => ∃ k : Nat, kv = .int .i64 k ∧ k ≤ ts.length ∧ RowKit.Hid (∀ j, j < k → ts.getD j 0 < 4096)) (fun kv => ts.length - (intOf kv).toNat)
    case atStart => exact ⟨0, rfl, by omega, Lib.hid (fun j hj => by omega)⟩
    case round =>
      obtain ⟨k, rfl, hk, hall⟩ := hrel
      by_cases hlt : k < ts.length
      · obtain ⟨b, o, rfl, hc⟩ := HX.out k (by rw [cast_len]; exact hlt)
        rw [cast_get] at hc
        have hmem : ts.getD k 0 ∈ ts := by simp [hlt]
        obtain ⟨t, ht⟩ : ∃ t, t = ts.getD k 0 := ⟨_, rfl⟩
        rw [← ht] at hc hmem
        have HT := Lib.hid ht
        have HM := Lib.hid hmem
        clear ht hmem
        by_cases hlm : t < 4096
        · have hd : decide ((4096 : Int) ≤ (t : Int)) = false := by rw [decide_eq_false_iff_not]; omega
          have HN := Lib.hid (show ∀ j, j < k + 1 → ts.getD j 0 < 4096 from fun j hj => by
            by_cases e : j = k
            · subst e; rw [← HT.out]; exact hlm
            · exact hall.out j (by omega))
          clear hall
          go_wp2_with fail
          go_round
          case rel => exact ⟨k + 1, by go_num, by omega, HN⟩
          case measure => simp [intOf]; omega
        · have hd : decide ((4096 : Int) ≤ (t : Int)) = true := by rw [decide_eq_true_iff]; omega
          have HF := Lib.hid (show fault ts = 1 by unfold fault; rw [if_neg (by omega), if_neg (fun h => hlm (h t HM.out))])
          clear hall
          go_wp2_with fail
          go_ret
          exact ⟨by rw [HF.out]; rfl, rfl⟩
      · obtain rfl : k = ts.length := by omega
        have HO := Lib.hid (fault_ok (ts := ts) ⟨by omega, fun t ht => by
          obtain ⟨j, hj, rfl⟩ := List.mem_iff_getElem.1 ht
          have := hall.out j hj
          simpa [hj] using this⟩)
        clear hall
        go_wp2_with fail
        go_ret
        exact ⟨by rw [HO.out]; rfl, rfl⟩

set_option maxHeartbeats 4000000 in
theorem leastSets_any (ts : List Nat) (ao : Option Addr) (c : Nat) (W : World) (hx : IntsAt .u32 W ao (cast ts)) (h32 : ∀ t ∈ ts, t < 4294967296) (hl : ts.length ≤ 1000000) :
    Calls Tryd.prog 8 #[.slice ao ts.length c] W fun e w' => ∃ v, e = .returned v ∧ w'.ownsRow W.heap.size 35 1 v (qleast ts 4096).length ((cast (qleast ts 4096)).map (Value.int .u32)) ∧ Below W.heap.size W w' := by
  obtain ⟨i0, hi0, hz0, hz1, hz2⟩ := info_parts slInfoU
  have HX := Lib.hid (show ∀ w, Below W.heap.size W w → IntsAt .u32 w ao (cast ts) from fun w hb => hx.below (Nat.le_refl _) hb)
  have H32 := Lib.hid h32
  clear hx h32
  go_enter Tryd.func8, Tryd.ntmps8
  go_wp2_with fail
  go_loopw [3, 4] (fun v sv wr => ∃ (s : Nat), sv = .int .u32 (s : Int) ∧ s ≤ 4096 ∧ RowKit.Hid (wr.ownsRow W.heap.size 35 1 v (qleast ts s).length ((cast (qleast ts s)).map (Value.int .u32))) ∧ RowKit.Hid (Below W.heap.size W wr)) (fun _ sv _ => 4096 - (intOf sv).toNat)
  case atStart => exact ⟨0, rfl, by omega, Lib.hid (World.ownsRow_nil _ _ _ _), Lib.hid (Below.refl _ _)⟩
  case round =>
    obtain ⟨s, rfl, hs, ho, hb⟩ := hrel
    obtain ⟨wk, hwk⟩ : ∃ wk, wk = wr := ⟨_, rfl⟩
    subst hwk
    have HO := Lib.hid ho.out
    have HB := Lib.hid hb.out
    have hsz := hb.out.size
    clear ho hb
    by_cases hlt : s < 4096
    · have hlt2 : (s : Int) < 4096 := by omega
      have hql := qleast_len ts s
      go_wp2_with fail
      go_loop [5, 6, 7] (fun b1v b2v kv => ∃ (k : Nat) (b1 b2 : Bool), b1v = .bool b1 ∧ b2v = .bool b2 ∧ kv = .int .i64 (k : Int) ∧ k ≤ ts.length ∧ RowKit.Hid (b1 = (ts.take k).any fun t => t == s) ∧ RowKit.Hid (b2 = (ts.take k).any fun t => t != s && t &&& (4294967295 - s) == 0)) (fun _ _ kv => ts.length - (intOf kv).toNat)
      case atStart => exact ⟨0, false, false, rfl, rfl, rfl, by omega, Lib.hid (by simp), Lib.hid (by simp)⟩
      case round =>
        obtain ⟨k, b1, b2, rfl, rfl, rfl, hk, hb1, hb2⟩ := hrel
        by_cases hkl : k < ts.length
        · obtain ⟨b, o, rfl, hc⟩ := HX.out _ HB.out k (by rw [cast_len]; exact hkl)
          rw [cast_get] at hc
          have ht32 := H32.out _ (show ts.getD k 0 ∈ ts by simp [hkl])
          have h1 := any_take (fun t => t == s) hkl
          have h2 := any_take (fun t => t != s && t &&& (4294967295 - s) == 0) hkl
          rw [← hb1.out] at h1
          rw [← hb2.out] at h2
          obtain ⟨t, ht⟩ : ∃ t, t = ts.getD k 0 := ⟨_, rfl⟩
          rw [← ht] at hc ht32 h1 h2
          have hn1 := u32_andNot_nat t s ht32 (by omega)
          obtain ⟨z, hz⟩ : ∃ z, z = t &&& (4294967295 - s) := ⟨_, rfl⟩
          rw [← hz] at hn1 h2
          clear ht hz hb1 hb2
          by_cases hts : t = s
          · subst hts
            have H1 := Lib.hid h1
            have H2 := Lib.hid h2
            have e1 : ((t : Int) == (t : Int)) = true := by simp
            have e2 : ((t : Int) != (t : Int)) = false := by simp
            clear h1 h2
            cases b1 <;> cases b2
            all_goals
              go_wp2_with fail
              go_round
              case rel => exact ⟨k + 1, _, _, rfl, rfl, by go_num, by omega, Lib.hid (by rw [H1.out]; simp), Lib.hid (by rw [H2.out]; simp)⟩
              case measure => simp [intOf]; omega
          · have H1 := Lib.hid h1
            have H2 := Lib.hid h2
            have HTS := Lib.hid hts
            have e1 : ((t : Int) == (s : Int)) = false := by rw [beq_eq_false_iff_ne]; omega
            have e2 : ((t : Int) != (s : Int)) = true := by rw [bne_iff_ne]; omega
            clear h1 h2 hts
            by_cases hz0 : z = 0
            · subst hz0
              have e3 : (((0 : Nat) : Int) == 0) = true := by decide
              cases b1 <;> cases b2
              all_goals
                go_wp2_with fail
                go_round
                case rel => exact ⟨k + 1, _, _, rfl, rfl, by go_num, by omega, Lib.hid (by rw [H1.out]; simp [HTS.out]), Lib.hid (by rw [H2.out]; simp [HTS.out])⟩
                case measure => simp [intOf]; omega
            · have e3 : ((z : Int) == 0) = false := by rw [beq_eq_false_iff_ne]; omega
              cases b1 <;> cases b2
              all_goals
                go_wp2_with fail
                go_round
                case rel => exact ⟨k + 1, _, _, rfl, rfl, by go_num, by omega, Lib.hid (by rw [H1.out]; simp [HTS.out]), Lib.hid (by rw [H2.out]; simp [hz0])⟩
                case measure => simp [intOf]; omega
        · obtain rfl : k = ts.length := by omega
          have h1 := hb1.out
          have h2 := hb2.out
          rw [List.take_length] at h1 h2
          have hsu := qleast_succ ts s
          rw [show thereB ts s = b1 from h1.symm, show withinB ts s = b2 from h2.symm] at hsu
          clear hb1 hb2 h1 h2
          have plain : qleast ts (s + 1) = qleast ts s → wk.ownsRow W.heap.size 35 1 u3 (qleast ts (s + 1)).length ((cast (qleast ts (s + 1))).map (Value.int .u32)) := fun e => by rw [e]; exact HO.out
          have PL := Lib.hid plain
          have HSU := Lib.hid hsu
          clear plain hsu
          cases b1
          · go_wp2_with fail
            go_roundw
            case rel => exact ⟨s + 1, by go_num, by omega, Lib.hid (PL.out (by rw [HSU.out]; simp)), HB⟩
            case measure => simp [intOf]; omega
          · cases b2
            · go_wp2_with (at_builtin; refine wpList_push _ rfl _ _ 22 rfl W.heap.size 35 i0 (.int .u32 0) 1 4 Tryd.underlying22 hi0 hz0 hz1 hz2 rfl (by decide) _ _ _ rfl (HO.out.alloc _) ⟨wk.heap.size, 0, none⟩ 1 [.int .u32 s] rfl rfl (cell_one_new _ _ _) (one1 _ _) (by unfold maxLen; omega) (by omega) (by simp; omega) ?_)
              intro g cap w7 ho7 hg7
              have hb7 := (HB.out.alloc hsz (.cells #[.int .u32 s] 35)).grown hg7 (by simp; omega) (fun k hk => (HO.out.lt k hk).1)
              have hq : qleast ts (s + 1) = qleast ts s ++ [s] := by rw [HSU.out]; rfl
              rw [show (cast (qleast ts s)).map (Value.int .u32) ++ [.int .u32 s] = (cast (qleast ts (s + 1))).map (Value.int .u32) by rw [hq]; simp [cast], show (qleast ts s).length + 1 = (qleast ts (s + 1)).length by rw [hq]; simp] at ho7
              rw [show (qleast ts s).length + 1 = (qleast ts (s + 1)).length by rw [hq]; simp]
              have HO7 := Lib.hid ho7
              have HB7 := Lib.hid hb7
              clear ho7 hb7 hg7 hq
              go_wp2_with fail
              go_roundw
              case rel => exact ⟨s + 1, by go_num, by omega, HO7, HB7⟩
              case measure => simp [intOf]; omega
            · go_wp2_with fail
              go_roundw
              case rel => exact ⟨s + 1, by go_num, by omega, Lib.hid (PL.out (by rw [HSU.out]; simp)), HB⟩
              case measure => simp [intOf]; omega
    · obtain rfl : s = 4096 := by omega
      go_wp2_with fail
      go_ret
      exact ⟨_, rfl, HO.out, HB.out⟩

set_option maxHeartbeats 4000000 in
theorem hitsOf_any (ts : List Nat) (ao : Option Addr) (c : Nat) (W : World) (hx : IntsAt .u32 W ao (cast ts)) (h32 : ∀ t ∈ ts, t < 4294967296) (hl : ts.length ≤ 1000000) :
    Calls Tryd.prog 9 #[.slice ao ts.length c] W fun e w' => ∃ v, e = .returned v ∧ w'.ownsRow W.heap.size 35 1 v (qhits ts 4096).length ((cast (qhits ts 4096)).map (Value.int .u32)) ∧ Below W.heap.size W w' := by
  obtain ⟨i0, hi0, hz0, hz1, hz2⟩ := info_parts slInfoU
  have HX := Lib.hid (show ∀ w, Below W.heap.size W w → IntsAt .u32 w ao (cast ts) from fun w hb => hx.below (Nat.le_refl _) hb)
  have H32 := Lib.hid h32
  have HL := Lib.hid (show ts.length ≤ maxLen by unfold maxLen; omega)
  clear hx h32 hl
  go_enter Tryd.func9, Tryd.ntmps9
  go_wp2_with fail
  go_loopw [3, 4] (fun v sv wr => ∃ (s : Nat), sv = .int .u32 (s : Int) ∧ s ≤ 4096 ∧ RowKit.Hid (wr.ownsRow W.heap.size 35 1 v (qhits ts s).length ((cast (qhits ts s)).map (Value.int .u32))) ∧ RowKit.Hid (Below W.heap.size W wr)) (fun _ sv _ => 4096 - (intOf sv).toNat)
  case atStart => exact ⟨0, rfl, by omega, Lib.hid (World.ownsRow_nil _ _ _ _), Lib.hid (Below.refl _ _)⟩
  case round =>
    obtain ⟨s, rfl, hs, ho, hb⟩ := hrel
    obtain ⟨wk, hwk⟩ : ∃ wk, wk = wr := ⟨_, rfl⟩
    subst hwk
    have HO := Lib.hid ho.out
    have HB := Lib.hid hb.out
    have hsz := hb.out.size
    clear ho hb
    by_cases hlt : s < 4096
    · have hlt2 : (s : Int) < 4096 := by omega
      have hql := qhits_len ts s
      have HA := Lib.hid (hitsAll_any ts s ao c wk (HX.out _ HB.out) H32.out (by omega) HL.out)
      obtain ⟨h0, hh0⟩ : ∃ h0, h0 = hitsB ts s := ⟨_, rfl⟩
      rw [← hh0] at HA
      have HH0 := Lib.hid hh0
      clear hh0
      go_wp2_with fail
      refine HA.out.mono ?_
      clear HA
      rintro e w' ⟨rfl, rfl⟩
      go_wp2_with fail
      go_loop [5, 6] (fun iv kv => ∃ (k : Nat) (b : Bool), iv = .bool b ∧ kv = .int .i64 (k : Int) ∧ k ≤ 12 ∧ RowKit.Hid (b = isB ts s k)) (fun _ kv => 12 - (intOf kv).toNat)
      case atStart => exact ⟨0, h0, rfl, rfl, by omega, Lib.hid HH0.out⟩
      case round =>
        obtain ⟨k, b, rfl, rfl, hk, hbk⟩ := hrel
        have fin : (b = false ∨ k = 12) → b = isB ts s 12 := fun h => by
          rcases h with h | rfl
          · have h2 := hbk.out
            rw [h] at h2
            have := isB_stop h2.symm (12 - k)
            rw [show k + (12 - k) = 12 by omega] at this
            rw [h, this]
          · exact hbk.out
        have FIN := Lib.hid fin
        clear fin
        have hsu := qhits_succ ts s
        have HSU := Lib.hid hsu
        clear hsu
        cases b
        · have hf := (FIN.out (.inl rfl)).symm
          have HP := Lib.hid (show wk.ownsRow W.heap.size 35 1 u3 (qhits ts (s + 1)).length ((cast (qhits ts (s + 1))).map (Value.int .u32)) by rw [HSU.out, hf]; simpa using HO.out)
          clear hf hbk
          go_wp2_with fail
          go_roundw
          case rel => exact ⟨s + 1, by go_num, by omega, HP, HB⟩
          case measure => simp [intOf]; omega
        · by_cases hk12 : k < 12
          · have hk2 : (k : Int) < 12 := by omega
            obtain ⟨hp1, hp2⟩ := pow_u32q k hk12
            have hso := so_u32q s k
            have hst : isB ts s (k + 1) = (isB ts s k && !(s.testBit k && hitsB ts (drop s k))) := rfl
            rw [← hbk.out, Bool.true_and] at hst
            obtain ⟨bb, hbb⟩ : ∃ bb, bb = s.testBit k := ⟨_, rfl⟩
            rw [← hbb] at hso hst
            clear hbb hbk
            cases bb
            · have HST := Lib.hid hst
              clear hst
              go_wp2_with fail
              go_round
              case rel => exact ⟨k + 1, true, rfl, by go_num, by omega, Lib.hid (by rw [HST.out]; rfl)⟩
              case measure => simp [intOf]; omega
            · have hn1 := u32_andNot_nat s (2 ^ k) (by omega) hp2
              have HA2 := Lib.hid (hitsAll_any ts (drop s k) ao c wk (HX.out _ HB.out) H32.out (by have := (drop_sub hlt hk12).le; omega) HL.out)
              obtain ⟨r, hr⟩ : ∃ r, r = hitsB ts (drop s k) := ⟨_, rfl⟩
              rw [← hr] at HA2 hst
              unfold drop at HA2
              obtain ⟨q, hq⟩ : ∃ q, q = 2 ^ k := ⟨_, rfl⟩
              rw [← hq] at hn1 hp1 HA2
              obtain ⟨z, hz⟩ : ∃ z, z = s &&& (4294967295 - q) := ⟨_, rfl⟩
              rw [← hz] at hn1 HA2
              have HST := Lib.hid hst
              clear hr hq hz hp2 hst
              go_wp2_with fail
              refine HA2.out.mono ?_
              clear HA2
              rintro e w' ⟨rfl, rfl⟩
              cases r
              · go_wp2_with fail
                go_round
                case rel => exact ⟨k + 1, true, rfl, by go_num, by omega, Lib.hid (by rw [HST.out]; rfl)⟩
                case measure => simp [intOf]; omega
              · go_wp2_with fail
                go_round
                case rel => exact ⟨k + 1, false, rfl, by go_num, by omega, Lib.hid (by rw [HST.out]; rfl)⟩
                case measure => simp [intOf]; omega
          · obtain rfl : k = 12 := by omega
            have hf := (FIN.out (.inr rfl)).symm
            have HSF := Lib.hid (show qhits ts (s + 1) = qhits ts s ++ [s] by rw [HSU.out, hf]; rfl)
            clear hf hbk
            go_wp2_with (at_builtin; refine wpList_push _ rfl _ _ 22 rfl W.heap.size 35 i0 (.int .u32 0) 1 4 Tryd.underlying22 hi0 hz0 hz1 hz2 rfl (by decide) _ _ _ rfl (HO.out.alloc _) ⟨wk.heap.size, 0, none⟩ 1 [.int .u32 s] rfl rfl (cell_one_new _ _ _) (one1 _ _) (by unfold maxLen; omega) (by omega) (by simp; omega) ?_)
            intro g cap w7 ho7 hg7
            have hb7 := (HB.out.alloc hsz (.cells #[.int .u32 s] 35)).grown hg7 (by simp; omega) (fun k hk => (HO.out.lt k hk).1)
            rw [show (cast (qhits ts s)).map (Value.int .u32) ++ [.int .u32 s] = (cast (qhits ts (s + 1))).map (Value.int .u32) by rw [HSF.out]; simp [cast], show (qhits ts s).length + 1 = (qhits ts (s + 1)).length by rw [HSF.out]; simp] at ho7
            rw [show (qhits ts s).length + 1 = (qhits ts (s + 1)).length by rw [HSF.out]; simp]
            have HO7 := Lib.hid ho7
            have HB7 := Lib.hid hb7
            clear ho7 hb7 hg7
            go_wp2_with fail
            go_roundw
            case rel => exact ⟨s + 1, by go_num, by omega, HO7, HB7⟩
            case measure => simp [intOf]; omega
    · obtain rfl : s = 4096 := by omega
      go_wp2_with fail
      go_ret
      exact ⟨_, rfl, HO.out, HB.out⟩
/-- The same, by what they are. -/
theorem leastSets_lst (ts : List Nat) (ao : Option Addr) (c : Nat) (W : World) (hx : IntsAt .u32 W ao (cast ts)) (hok : ok ts) :
    Calls Tryd.prog 8 #[.slice ao ts.length c] W fun e w' => ∃ v q, e = .returned v ∧ Lst (· ∈ ts) q ∧ q.length ≤ 4096 ∧ w'.ownsRow W.heap.size 35 1 v q.length ((cast q).map (Value.int .u32)) ∧ Below W.heap.size W w' :=
  (leastSets_any ts ao c W hx (fun t ht => by have := hok.2 t ht; omega) (by have := hok.1; omega)).mono fun _ _ ⟨v, h1, h2, h3⟩ => ⟨v, _, h1, qleast_lst hok.2, qleast_len _ _, h2, h3⟩
theorem hitsOf_lst (ts : List Nat) (ao : Option Addr) (c : Nat) (W : World) (hx : IntsAt .u32 W ao (cast ts)) (hok : ok ts) :
    Calls Tryd.prog 9 #[.slice ao ts.length c] W fun e w' => ∃ v q, e = .returned v ∧ Lst (U ts) q ∧ q.length ≤ 4096 ∧ w'.ownsRow W.heap.size 35 1 v q.length ((cast q).map (Value.int .u32)) ∧ Below W.heap.size W w' :=
  (hitsOf_any ts ao c W hx (fun t ht => by have := hok.2 t ht; omega) (by have := hok.1; omega)).mono fun _ _ ⟨v, h1, h2, h3⟩ => ⟨v, _, h1, qhits_lst ts, qhits_len _ _, h2, h3⟩
end Go.Proofs.YtbgcmemndaaopaaDoor
