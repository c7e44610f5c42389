/- assayerref1.ValueText at a desk's values. assayerref1.Shorter is tapeLt. assayerref1.With: a tape with a number at a place. assayerref1.Mix, Step, BelowOf, SplitOf. -/
import Derived.Test.YtalbllijahiiiaaGreatDoorDkAY
import Derived.Deep.QuietTactic
import Derived.BigQuiet
section
namespace Go.Proofs.YtalbllijahiiiaaGreatDoor
open Go.RowKit Go.Mine Go.Mine.Desk

theorem ValueText_num (z : Int) (hz : i64ok z) (w : World) : Calls Tryz.prog 17 #[numV' z] w fun e w' => e = .returned (str (Go.Lib.itoa z)) ∧ Below w.heap.size w w' := by
  obtain ⟨w0, hw0⟩ : ∃ w0, w0 = w.alloc (.cells #[.bool false, .int .i64 z, .slice none 0 0] 53) := ⟨_, rfl⟩
  have hb0 : Below w.heap.size w w0 := by rw [hw0]; exact (Below.refl _ _).alloc (Nat.le_refl _) _
  have HC := Lib.hid (Digits_any z hz w0)
  have HB := Lib.hid hb0
  have HW := Lib.hid hw0
  rw [hw0] at HC
  clear hw0 hb0
  go_enter Tryz.func17, Tryz.ntmps17
  go_wp2_with fail
  refine HC.out.mono ?_
  rintro e w1 ⟨rfl, hb1⟩
  rw [← HW.out] at hb1
  have HB1 := Lib.hid (HB.out.trans (hb1.mono HB.out.size))
  go_wp2_with fail
  go_ret
  exact ⟨rfl, HB1.out⟩
def ltext (zs : List Int) (k : Nat) : Bytes := 40 :: Go.Lib.join ((zs.take k).map Go.Lib.itoa) [32]
theorem ltext_next (l : List Int) (k : Nat) (x : Int) (h : l[k]? = some x) : ltext l (k + 1) = if k = 0 then ltext l k ++ Go.Lib.itoa x else ltext l k ++ [32] ++ Go.Lib.itoa x := by
  obtain ⟨hl, _⟩ := List.getElem?_eq_some_iff.1 h
  unfold ltext
  rw [List.take_add_one, h, Option.toList_some, List.map_append, List.map_singleton, join_snoc]
  by_cases hk : k = 0
  · subst hk; simp [Go.Lib.join_nil]
  · rw [if_neg hk, if_neg]
    · simp
    · intro he
      have h0 := congrArg List.length he
      rw [List.length_map, List.length_take, List.length_nil] at h0
      omega
theorem ltext_cap {l : List Int} (h : ∀ z ∈ l, i64ok z) : ∀ k, (ltext l k).length ≤ 21 * k + 1
  | 0 => by simp [ltext, Go.Lib.join_nil]
  | k + 1 => by
    have ih := ltext_cap h k
    cases hx : l[k]? with
    | none =>
      have e : ltext l (k + 1) = ltext l k := by unfold ltext; rw [List.take_add_one, hx]; simp
      rw [e]; omega
    | some x =>
      have hi := itoa_len (h x (List.mem_of_getElem? hx))
      rw [ltext_next l k x hx]
      split
      · rw [List.length_append]; omega
      · rw [List.length_append, List.length_append]; simp; omega
set_option maxRecDepth 100000 in
set_option maxHeartbeats 2000000 in
theorem ValueText_list (zs : List Int) (ao : Option Addr) (c : Nat) (hl : zs.length ≤ 2000000) (hz : ∀ z ∈ zs, i64ok z) (w : World) (hi : ItemsAt w ao zs) : Calls Tryz.prog 17 #[.agg #[.bool true, .int .i64 0, .slice ao zs.length c]] w fun e w' => e = .returned (str (vtext (.list zs))) ∧ Below w.heap.size w w' := by
  obtain ⟨w0, hw0⟩ : ∃ w0, w0 = w.alloc (.cells #[.bool true, .int .i64 0, .slice ao zs.length c] 53) := ⟨_, rfl⟩
  have hb0 : Below w.heap.size w w0 := by rw [hw0]; exact (Below.refl _ _).alloc (Nat.le_refl _) _
  have k0 : Blk w0 w.heap.size 53 #[.bool true, .int .i64 0, .slice ao zs.length c] := by rw [hw0]; exact Blk.new _ _ _
  have hi0w := hi.on (Nat.le_refl _) hb0
  obtain ⟨n, hn⟩ : ∃ n, zs.length = n := ⟨_, rfl⟩
  rw [hn] at hw0 hl k0 ⊢
  obtain ⟨B, hB⟩ : ∃ B, B = w.heap.size := ⟨_, rfl⟩
  rw [← hB] at k0
  have HB0 := Lib.hid (And.intro hb0 (And.intro hi0w k0))
  have HW0 := Lib.hid hw0
  have HN := Lib.hid hn
  have c0 : w0.cell? ⟨B, 0, none⟩ = some (.bool true) := k0.cell 0
  rw [hw0] at c0
  have HBB := Lib.hid hB
  clear hi hi0w hb0 hw0 k0 hn hB
  go_enter Tryz.func17, Tryz.ntmps17
  go_wp2_with fail
  rw [← HW0.out, ← HBB.out]
  clear c0
  go_loopw [3, 4] (fun sv iv wr => ∃ k : Nat, sv = str (ltext zs k) ∧ iv = .int .i64 (k : Int) ∧ k ≤ n ∧ RowKit.Hid (Below w.heap.size w wr ∧ ItemsAt wr ao zs ∧ Blk wr B 53 #[.bool true, .int .i64 0, .slice ao n c])) (fun _ iv _ => n - (intOf iv).toNat)
  case atStart => exact ⟨0, rfl, rfl, by omega, HB0⟩
  case round =>
    obtain ⟨k, rfl, rfl, hk, HK⟩ := hrel
    have hlt0 := ltext_cap hz k
    have e2 : wr.cell? ⟨B, 2, none⟩ = some (.slice ao n c) := HK.out.2.2.cell 2
    rcases Nat.lt_or_ge k n with hkn | hkn
    · obtain ⟨b, rfl, h0, h1, h2⟩ := HK.out.2.1 k (by rw [HN.out]; omega)
      obtain ⟨x, hxe⟩ : ∃ x, zs.getD k 0 = x := ⟨_, rfl⟩
      have hmem : zs[k]? = some x := by rw [← hxe]; simp [show k < zs.length by rw [HN.out]; omega]
      rw [hxe] at h1
      have hi0' : (0 : Int) ≤ (k : Int) := by omega
      have hi1 : (k : Int) < (n : Int) := by omega
      have hw1 : IntKind.i64.wrap ((k : Int) + 1) = ((k + 1 : Nat) : Int) := by rw [IntWalk.i64_in _ (by omega)]; omega
      have hx64 := hz x (List.mem_of_getElem? hmem)
      have hxl := itoa_len hx64
      have HD := Lib.hid (fun wx => ValueText_num x hx64 wx)
      have HNX := Lib.hid (ltext_next zs k x hmem)
      obtain ⟨t, ht⟩ : ∃ t, t = ltext zs k := ⟨_, rfl⟩
      obtain ⟨tx, htx⟩ : ∃ tx, tx = Go.Lib.itoa x := ⟨_, rfl⟩
      rw [← ht] at HNX hlt0 ⊢
      rw [← htx] at HNX hxl
      have HTX := Lib.hid htx
      clear hxe hmem ht htx
      have hl1 : ¬ 9223372036854775807 < t.length + 1 := by omega
      have hl2 : ¬ 9223372036854775807 < t.length + 1 + tx.length := by omega
      have hl3 : ¬ 9223372036854775807 < t.length + tx.length := by omega
      rcases Nat.eq_zero_or_pos k with hk0 | hk0
      · subst hk0
        simp only [Nat.zero_mul, Nat.zero_add] at h0 h1 h2
        have d1 : decide (0 < ((0 : Nat) : Int)) = false := decide_eq_false (by omega)
        have hln : 0 < n := hkn
        go_wp2_with fail
        refine (HD.out _).mono ?_
        rw [← HTX.out]
        rintro e w1 ⟨rfl, hb1⟩
        have HB := Lib.hid (And.intro (HK.out.1.trans (hb1.mono HK.out.1.size)) (And.intro (HK.out.2.1.on (Nat.le_refl _) hb1) (HK.out.2.2.below hb1)))
        clear hb1 h0 h1 h2 e2
        go_wp2_with fail
        go_roundw
        case rel => exact ⟨1, by rw [HNX.out, if_pos (by first | rfl | trivial)]; exact congrArg Value.string (cat_text t tx), by go_num, by omega, HB⟩
        case measure => simp [intOf]; omega
      · have d1 : decide (0 < (k : Int)) = true := decide_eq_true (by omega)
        go_wp2_with fail
        refine (HD.out _).mono ?_
        rw [← HTX.out]
        rintro e w1 ⟨rfl, hb1⟩
        have HB := Lib.hid (And.intro (HK.out.1.trans (hb1.mono HK.out.1.size)) (And.intro (HK.out.2.1.on (Nat.le_refl _) hb1) (HK.out.2.2.below hb1)))
        clear hb1 h0 h1 h2 e2
        go_wp2_with fail
        go_roundw
        case rel => exact ⟨k + 1, by rw [HNX.out, if_neg (by omega)]; show _ = Value.string ⟨(t ++ [32] ++ tx).toArray⟩; rw [← cat_text, ← cat_text], by go_num, by omega, HB⟩
        case measure => simp [intOf]; omega
    · have hkl : k = n := by omega
      subst hkl
      have hl4 : ¬ 9223372036854775807 < (ltext zs k).length + 1 := by omega
      have HE := Lib.hid (show vtext (.list zs) = ltext zs k ++ [41] by unfold ltext; rw [List.take_of_length_le (by rw [HN.out]; omega)]; rfl)
      obtain ⟨t, ht⟩ : ∃ t, t = ltext zs k := ⟨_, rfl⟩
      rw [← ht] at HE hl4 ⊢
      clear ht
      go_wp2_with fail
      go_ret
      refine ⟨?_, HK.out.1⟩
      rw [HE.out]
      exact congrArg (fun b => Ending.returned (.string b)) (cat_text t [41])
end Go.Proofs.YtalbllijahiiiaaGreatDoor
end

section
namespace Go.Proofs.YtalbllijahiiiaaGreatDoor
open Go.RowKit Go.Mine Go.Mine.Desk

theorem lexLt_step {xs ys : List Int} {k : Nat} (hk : k < xs.length) (hk' : k < ys.length) : lexLt (xs.drop k) (ys.drop k) = if xs.getD k 0 = ys.getD k 0 then lexLt (xs.drop (k + 1)) (ys.drop (k + 1)) else decide (xs.getD k 0 < ys.getD k 0) := by
  rw [List.drop_eq_getElem_cons hk, List.drop_eq_getElem_cons hk']
  simp [lexLt, hk, hk']
theorem lexLt_end (xs ys : List Int) : lexLt (xs.drop xs.length) ys = false := by
  rw [List.drop_length]; rfl

set_option maxHeartbeats 600000 in
theorem shorter_any (xs ys : List Int) (a b : Option Addr) (ca cb : Nat) (w : World) (hx : IntsAt .i64 w a xs) (hy : IntsAt .i64 w b ys) (hl : xs.length ≤ maxLen) (_hl2 : ys.length ≤ maxLen) :
    Calls Tryz.prog 33 #[.slice a xs.length ca, .slice b ys.length cb] w fun e w' => e = .returned (.bool (tapeLt xs ys)) ∧ ∃ n, w' = w.drewN n := by
  unfold maxLen at hl
  by_cases hne : xs.length = ys.length
  · have HX := Lib.hid hx; clear hx
    have HY := Lib.hid hy; clear hy
    have HR := Lib.hid (show tapeLt xs ys = lexLt xs ys by unfold tapeLt; rw [if_pos hne])
    rw [← hne]
    have HNE := Lib.hid hne; clear hne
    go_enter Tryz.func33, Tryz.ntmps33
    go_wp2_with fail
    go_loopw [5] (fun i wr => ∃ k nq : Nat, i = .int .i64 k ∧ k ≤ xs.length ∧ RowKit.Hid (lexLt xs ys = lexLt (xs.drop k) (ys.drop k)) ∧ wr = w.drewN nq) (fun i _ => xs.length - (intOf i).toNat)
    case atStart => exact ⟨0, 0, rfl, by omega, Lib.hid (by simp), (drewN_zero w).symm⟩
    case round =>
      obtain ⟨k, nq, rfl, hk, HT, rfl⟩ := hrel
      by_cases hlt : k < xs.length
      · obtain ⟨b1, o1, rfl, hc1⟩ := HX.out k hlt
        obtain ⟨b2, o2, rfl, hc2⟩ := HY.out k (by rw [← HNE.out]; exact hlt)
        have HTS := Lib.hid (HT.out.trans (lexLt_step hlt (by rw [← HNE.out]; exact hlt)))
        obtain ⟨x, hx⟩ : ∃ x, x = xs.getD k 0 := ⟨_, rfl⟩
        obtain ⟨y, hy⟩ : ∃ y, y = ys.getD k 0 := ⟨_, rfl⟩
        rw [← hx, ← hy] at HTS
        rw [← hx] at hc1
        rw [← hy] at hc2
        clear hx hy
        by_cases hxy : x = y
        · subst hxy
          have hb : (x != x) = false := by simp
          go_wp2_with fail
          go_quiet (fail)
          go_wp2_with fail
          go_roundw
          case rel => exact ⟨k + 1, _, by go_num, by omega, Lib.hid (by rw [HTS.out]; simp), rfl⟩
          case measure => simp [intOf]; omega
        · have hb : (x != y) = true := by rw [bne_iff_ne]; exact hxy
          have HE := Lib.hid (show tapeLt xs ys = decide (x < y) by rw [HR.out, HTS.out, if_neg hxy])
          by_cases hxl : x < y
          · have hd : decide (x < y) = true := by rw [decide_eq_true_iff]; exact hxl
            rw [hd] at HE
            go_wp2_with fail
            go_quiet (fail)
            go_wp2_with fail
            go_quiet (fail)
            go_wp2_with fail
            go_ret
            exact ⟨by rw [HE.out]; rfl, _, by rw [drewN_drewN]; exact drewN_drewN _ _ _⟩
          · have hd : decide (x < y) = false := by rw [decide_eq_false_iff_not]; exact hxl
            rw [hd] at HE
            go_wp2_with fail
            go_quiet (fail)
            go_wp2_with fail
            go_quiet (fail)
            go_wp2_with fail
            go_ret
            exact ⟨by rw [HE.out]; rfl, _, by rw [drewN_drewN]; exact drewN_drewN _ _ _⟩
      · obtain rfl : k = xs.length := by omega
        have HE := Lib.hid (show tapeLt xs ys = false by rw [HR.out, HT.out, lexLt_end])
        go_wp2_with fail
        go_ret
        exact ⟨by rw [HE.out]; rfl, _, rfl⟩
  · have HE := Lib.hid (show tapeLt xs ys = decide (xs.length < ys.length) by unfold tapeLt; rw [if_neg hne])
    have hb : ((xs.length : Int) != (ys.length : Int)) = true := by rw [bne_iff_ne]; omega
    have hb2 : ((xs.length : Int) == (ys.length : Int)) = false := by rw [beq_eq_false_iff_ne]; omega
    have HNE := Lib.hid hne; clear hne
    by_cases hxl : xs.length < ys.length
    · have hd : decide (xs.length < ys.length) = true := by rw [decide_eq_true_iff]; exact hxl
      rw [hd] at HE
      go_enter Tryz.func33, Tryz.ntmps33
      go_wp2_with fail
      go_ret
      exact ⟨by rw [HE.out]; rfl, 0, (drewN_zero w).symm⟩
    · have hd : decide (xs.length < ys.length) = false := by rw [decide_eq_false_iff_not]; exact hxl
      rw [hd] at HE
      go_enter Tryz.func33, Tryz.ntmps33
      go_wp2_with fail
      go_ret
      exact ⟨by rw [HE.out]; rfl, 0, (drewN_zero w).symm⟩
end Go.Proofs.YtalbllijahiiiaaGreatDoor
end

section
namespace Go.Proofs.YtalbllijahiiiaaGreatDoor
open Go.RowKit Go.Mine Go.Mine.Desk

theorem ints_news {w : World} {ao : Option Addr} {l : List Int} (h : IntsAt .i64 w ao l) : ∀ ad, ao = some ad → ∀ j u, (l.map (Value.int .i64))[j]? = some u → w.cell? (ad.add j) = some u := by
  intro ad had j u hj
  have hjl : j < l.length := by
    have := (List.getElem?_eq_some_iff.1 hj).1
    simpa using this
  obtain ⟨b, o, e, hc⟩ := h j hjl
  rw [had] at e
  cases e
  simp [hjl] at hj
  rw [← hj]
  have e2 : (l.getD j 0) = l[j] := by simp [hjl]
  rw [e2] at hc
  have e3 : (⟨b, o, none⟩ : Addr).add j = ⟨b, o + j, none⟩ := by unfold Addr.add; split <;> simp_all
  rw [e3]
  exact hc
set_option maxHeartbeats 1000000 in
theorem With_any (ao : Option Addr) (c i : Nat) (x : Int) (l : List Int) (hl : l.length ≤ 2000000) (hi : i < l.length) (w : World) (hat : IntsAt .i64 w ao l) :
    Calls Tryz.prog 31 #[.slice ao l.length c, .int .i64 (i : Int), .int .i64 x] w fun e w' => (∃ vo vc, e = .returned (.slice vo l.length vc) ∧ w'.ownsRow w.heap.size 3 1 (.slice vo l.length vc) l.length ((l.set i x).map (.int .i64))) ∧ Below w.heap.size w w' := by
  obtain ⟨i1, hj1, hy0, hy1, hy2⟩ := info_parts infoI3d
  have hi0 : (0 : Int) ≤ (i : Int) := by omega
  have hi1 : (i : Int) < (l.length : Int) := by omega
  have HA := Lib.hid hat
  have hao : ao = none → l.length = 0 := fun h => by
    obtain ⟨b, o, e, _⟩ := hat i hi
    rw [h] at e; cases e
  clear hat
  go_enter Tryz.func31, Tryz.ntmps31
  go_wp2_with (at_builtin; refine wpList_append_any _ rfl _ _ 48 rfl w.heap.size 3 i1 (.int .i64 0) 1 8 Tryz.underlying48 hj1 hy0 hy1 hy2 rfl (by decide) w.heap.size 0 0 [] rfl (owns_empty (Nat.le_refl _) (heap_alloc_at _ _ rfl)) ao l.length c (l.map (Value.int .i64)) rfl (by simp) hao (ints_news (HA.out.below (Nat.le_refl _) ((Below.refl _ _).alloc (Nat.le_refl _) _))) (ints1 _ _) (by unfold maxLen; omega) (by omega) (by simp) _ rfl ?_)
  intro g cap w7 hown hgr hg7 hlt
  have hb7 : Below w.heap.size w w7 := Below.grown ((Below.refl _ _).alloc (Nat.le_refl _) (.cells #[] 3)) hgr (by simp) (by simp)
  have d0 : w7.cell? ⟨g, i, none⟩ = some (.int .i64 (l.getD i 0)) := by rw [hown.cellAt i (by omega)]; simp [hi]
  have f0 := hown.frozenAt i
  have HS := Lib.hid (hown.stored i (.int .i64 x)).1
  have HB := Lib.hid (hb7.setCell (p := ⟨g, i, none⟩) (hown.lt g rfl).1 (.int .i64 x))
  clear hown hgr hg7 hlt hb7
  go_wp2_with fail
  go_ret
  exact ⟨⟨_, _, rfl, by rw [List.map_set]; exact HS.out⟩, HB.out⟩
end Go.Proofs.YtalbllijahiiiaaGreatDoor
end

section
namespace Go.Proofs.YtalbllijahiiiaaGreatDoor
open Go.RowKit Go.Mine Go.Mine.Desk

theorem Mix_any (z : Int) (hz : 0 ≤ z ∧ z < 18446744073709551616) (w : World) : Calls Tryz.prog 70 #[.int .u64 z] w fun e w' => e = .returned (.int .u64 (mixZ z)) ∧ w' = w := by
  have h1 := hz.1
  have h2 := hz.2
  go_enter Tryz.func70, Tryz.ntmps70
  go_wp2_with fail
  go_ret
  exact ⟨rfl, rfl⟩
theorem Step_any (st ga : Int) (w : World) : Calls Tryz.prog 69 #[.agg #[.int .u64 st, .int .u64 ga]] w fun e w' => e = .returned (seedV (Seed.mk st ga).next) ∧ Below w.heap.size w w' := by
  go_enter Tryz.func69, Tryz.ntmps69
  go_wp2_with fail
  refine bodyPost_ret (v := .agg #[.int .u64 (IntKind.u64.wrap (st + ga)), .int .u64 ga]) (by simp [results, Tryz.results69, go_sem]) rfl ⟨rfl, ?_⟩
  exact ((Below.refl w.heap.size w).alloc (Nat.le_refl _) _).alloc (by simp) _
set_option maxRecDepth 100000 in
theorem BelowOf_any (st ga : Int) (n : Int) (hn : 1 ≤ n ∧ n ≤ 1001) (w : World) : Calls Tryz.prog 72 #[.agg #[.int .u64 st, .int .u64 ga], .int .i64 n] w fun e w' => e = .returned (.int .i64 ((Seed.mk st ga).below n)) ∧ Below w.heap.size w w' := by
  obtain ⟨s1, hs1⟩ : ∃ s1, s1 = (Seed.mk st ga).next := ⟨_, rfl⟩
  obtain ⟨o1, ho1⟩ : ∃ o1, o1 = mixZ s1.st := ⟨_, rfl⟩
  have hob : 0 ≤ o1 ∧ o1 < 18446744073709551616 := by rw [ho1]; exact mixZ_b _
  have hsb : 0 ≤ s1.st ∧ s1.st < 18446744073709551616 := by rw [hs1]; exact wrap_b _
  have hb0 : Below w.heap.size w (w.alloc (.cells #[.int .u64 st, .int .u64 ga] 87)) := (Below.refl w.heap.size w).alloc (Nat.le_refl _) _
  have HN1 := Lib.hid (Step_any st ga (w.alloc (.cells #[.int .u64 st, .int .u64 ga] 87)))
  rw [← hs1] at HN1
  have HM := Lib.hid (fun w => Mix_any s1.st hsb w)
  rw [← ho1] at HM
  have HRES := Lib.hid (show (Seed.mk st ga).below n = o1 / 4294967296 * n / 4294967296 from by rw [ho1, hs1]; rfl)
  obtain ⟨a1, b1⟩ := s1
  have HB0 := Lib.hid hb0
  clear hs1 ho1 hb0
  have h1 := hn.1
  have h2 := hn.2
  obtain ⟨q, hq⟩ : ∃ q, q = o1 / 4294967296 := ⟨_, rfl⟩
  have hq0 : 0 ≤ q := by omega
  have hq1 : q ≤ 4294967295 := by omega
  have hqn0 : 0 ≤ q * n := Int.mul_nonneg hq0 (by omega)
  have hqn1 : q * n ≤ 4299262262295 := by
    have h3 := Int.mul_le_mul hq1 h2 (by omega) (by omega : (0 : Int) ≤ 4294967295)
    omega
  have hw1 : IntKind.u64.wrap n = n := by rw [IntKind.wrap_u64]; omega
  have hw2 : IntKind.u64.wrap (q * n) = q * n := by rw [IntKind.wrap_u64]; omega
  have hw3 : IntKind.i64.wrap (q * n / 4294967296) = q * n / 4294967296 := IntWalk.i64_in _ (by omega)
  rw [← hq] at HRES
  clear hn
  have hfd : ∀ w : World, (Instr.field 87 (.agg #[.int .u64 a1, .int .u64 b1]) 0).run Tryz.prog w = .ok (.int .u64 a1) w := fun _ => by kernel_rfl
  go_enter Tryz.func72, Tryz.ntmps72
  go_wp2_with fail
  refine HN1.out.mono ?_
  clear HN1
  rintro e w1 ⟨rfl, hb1⟩
  have HB1 := Lib.hid (HB0.out.trans (hb1.mono HB0.out.size))
  clear hb1
  simp only [seedV]
  go_wp2_with fail
  refine (HM.out _).mono ?_
  clear HM
  rintro e w2 ⟨rfl, rfl⟩
  go_wp2_with fail
  go_ret
  refine ⟨?_, HB1.out⟩
  rw [HRES.out]
  have hfin : wrap64 (IntKind.u64.wrap (o1 / 4294967296 * n) / 4294967296) = q * n / 4294967296 := by
    rw [← hq, hw2]
    unfold wrap64
    omega
  exact congrArg (fun z => Ending.returned (.int .i64 z)) hfin
end Go.Proofs.YtalbllijahiiiaaGreatDoor
end
