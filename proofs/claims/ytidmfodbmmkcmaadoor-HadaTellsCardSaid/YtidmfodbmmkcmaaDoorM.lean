/- HadaTells' walk. -/
import Derived.Test.YtidmfodbmmkcmaaDoorL
namespace Go.Proofs.YtidmfodbmmkcmaaDoor
open Go.RowKit Go.Mine Go.Mine.Hada

theorem error_same (x : Value) (c : Int) (hx : (x = .nilIface ∧ c = 0) ∨ x = .iface 24 (.int .i64 c)) (w : World) (hg : Laid w) :
    Calls Tryd.prog 7 #[x, .int .i64 c] w fun e w' => e = .returned (.bool true) ∧ Below w.heap.size w w' := by
  have H := told_any x c hx w hg
  go_enter Tryd.func7, Tryd.ntmps7
  go_wp2_with fail
  refine H.mono ?_
  rintro e w' ⟨rfl, hb⟩
  clear H
  go_wp2_with fail
  go_ret
  exact ⟨by simp, hb⟩
theorem back_range (k : Int) (ao : Option Addr) (len cap : Nat) (W : World) (hk : k < 0 ∨ 6 < k) :
    Calls Tryd.prog 13 #[.int .i64 k, .slice ao len cap] W fun e w' => e = .returned (.tuple #[.slice none 0 0, .iface 24 (.int .i64 1)]) ∧ W = w' := by
  have H := effects_range k _ ao len cap W rfl hk
  go_enter Tryd.func13, Tryd.ntmps13
  go_wp2_with fail
  refine H.mono ?_
  rintro e w' ⟨rfl, rfl⟩
  go_wp2_with fail
  go_ret2
  exact ⟨rfl, rfl⟩
theorem back_form (k : Nat) (ao : Option Addr) (len cap : Nat) (W : World) (hk : k ≤ 6) (hne : len ≠ 2 ^ k) :
    Calls Tryd.prog 13 #[.int .i64 k, .slice ao len cap] W fun e w' => e = .returned (.tuple #[.slice none 0 0, .iface 24 (.int .i64 3)]) ∧ W = w' := by
  have H := effects_form k ao len cap W hk hne
  go_enter Tryd.func13, Tryd.ntmps13
  go_wp2_with fail
  refine H.mono ?_
  rintro e w' ⟨rfl, rfl⟩
  go_wp2_with fail
  go_ret2
  exact ⟨rfl, rfl⟩
theorem ints_nil (w : World) : Calls Tryd.prog 12 #[.slice none 0 0, .slice none 0 0] w fun e w' => e = .returned (.bool true) ∧ Below w.heap.size w w' :=
  (Ints_any [] [] none none 0 0 w (IntsAt.nil _ _ _) (IntsAt.nil _ _ _) (by simp [maxLen])).mono fun e w' ⟨h, n, hn⟩ => ⟨by rw [h]; simp, by rw [hn]; exact below_drewN (Below.refl _ _) _⟩
theorem ints_same (xs : List Int) (a b : Option Addr) (ca cb : Nat) (w : World) (ha : IntsAt .i64 w a xs) (hb : IntsAt .i64 w b xs) (hl : xs.length ≤ maxLen) :
    Calls Tryd.prog 12 #[.slice a xs.length ca, .slice b xs.length cb] w fun e w' => e = .returned (.bool true) ∧ Below w.heap.size w w' :=
  (Ints_any xs xs a b ca cb w ha hb hl).mono fun e w' ⟨h, n, hn⟩ => ⟨by rw [h]; simp, by rw [hn]; exact below_drewN (Below.refl _ _) _⟩

set_option maxHeartbeats 1000000 in
set_option maxRecDepth 100000 in
theorem tells_range (k : Int) (ao : Option Addr) (len cap : Nat) (W : World) (hg : Laid W) (hk : k < 0 ∨ 6 < k) :
    Calls Tryd.prog 3 #[.int .i64 k, .slice ao len cap] W fun e w' => e = .returned (.bool true) ∧ Below W.heap.size W w' := by
  have HG := Lib.hid hg
  have HK := Lib.hid hk
  clear hg
  rcases hk with hk | hk
  all_goals
    go_enter Tryd.func3, Tryd.ntmps3
    go_wp2_with fail
    refine (halved_any W).mono ?_
    rintro e w1 ⟨rfl, hb1⟩
    have HB1 := Lib.hid hb1; clear hb1
    go_wp2_with fail
    go_loop [8, 7] (fun iv v => iv = .int .i64 0 ∧ v = .slice none 0 0) (fun _ _ => 0)
    case atStart => exact ⟨rfl, rfl⟩
  all_goals
    obtain ⟨rfl, rfl⟩ := hrel
    go_wp2_with fail
    refine (table_bad k w1 HK.out).mono ?_
    rintro e w2 ⟨rfl, rfl⟩
    go_wp2_with fail
    refine (error_same _ 1 (.inr rfl) w1 (HG.out.below HB1.out)).mono ?_
    rintro e w2 ⟨rfl, hb2⟩
    have HB2 := Lib.hid (HB1.out.trans (hb2.mono HB1.out.size)); clear hb2
    go_wp2_with fail
    refine (rows_nil w2).mono ?_
    rintro e w3 ⟨rfl, rfl⟩
    have HB3 := HB2
    obtain ⟨w3, hw3⟩ : ∃ w3, w3 = w2 := ⟨_, rfl⟩
    subst hw3
    go_wp2_with fail
    refine (effects_range k _ ao len cap w3 rfl HK.out).mono ?_
    rintro e w4 ⟨rfl, rfl⟩
    go_wp2_with fail
    refine (error_same _ 1 (.inr rfl) w3 (HG.out.below HB3.out)).mono ?_
    rintro e w4 ⟨rfl, hb4⟩
    have HB4 := Lib.hid (HB3.out.trans (hb4.mono HB3.out.size)); clear hb4
    go_wp2_with fail
    refine (ints_nil w4).mono ?_
    rintro e w5 ⟨rfl, hb5⟩
    have HB5 := Lib.hid (HB4.out.trans (hb5.mono HB4.out.size)); clear hb5
    go_wp2_with fail
    refine (back_range k ao len cap w5 HK.out).mono ?_
    rintro e w6 ⟨rfl, rfl⟩
    go_wp2_with fail
    refine (error_same _ 1 (.inr rfl) w5 (HG.out.below HB5.out)).mono ?_
    rintro e w6 ⟨rfl, hb6⟩
    have HB6 := Lib.hid (HB5.out.trans (hb6.mono HB5.out.size)); clear hb6
    go_wp2_with fail
    refine (ints_nil w6).mono ?_
    rintro e w7 ⟨rfl, hb7⟩
    have HB7 := Lib.hid (HB6.out.trans (hb7.mono HB6.out.size)); clear hb7
    go_wp2_with fail
    go_ret
    exact ⟨rfl, HB7.out⟩

/-- What the reference tells of the way back is what is told. -/
theorem good_iff (k n : Nat) (xs : List Int) (hn : n = 2 ^ k) (hk : k ≤ 6) (hl : xs.length = n) :
    (∀ j, j < n → good n (xs.getD j 0) (wrap64 (G k (fun j => xs.getD j 0) j))) ↔ (∀ j, j < n → fine n (xs.getD j 0) (wrap64 (E n (fun j => xs.getD j 0) j))) := by
  have e : ∀ j, j < n → E n (fun j => xs.getD j 0) j = G k (fun j => xs.getD j 0) j := fun j hj => by
    unfold E
    rw [G_sum k hk _ j (by rw [← hn]; exact hj), ← hn]
  constructor
  · intro h j hj
    rw [e j hj]
    exact ⟨good_small k n xs hn hk hl h j hj, (h j hj).2⟩
  · intro h j hj
    have h' := h j hj
    rw [e j hj] at h'
    exact ⟨by have := h'.1; omega, h'.2⟩
theorem R_E (k n : Nat) (f : Nat → Int) (hn : n = 2 ^ k) (hk : k ≤ 6) : R (E n f) n = R (G k f) n :=
  R_congr fun j hj => by
    unfold E
    rw [G_sum k hk _ j (by rw [← hn]; exact hj), ← hn]
theorem R_Ed (k n : Nat) (f : Nat → Int) (hn : n = 2 ^ k) (hk : k ≤ 6) : R (fun j => (wrap64 (E n f j)).tdiv n) n = R (fun j => (wrap64 (G k f j)).tdiv n) n :=
  R_congr fun j hj => by
    unfold E
    rw [G_sum k hk _ j (by rw [← hn]; exact hj), ← hn]

theorem ints_vals (h : Nat → Int) (n : Nat) (a b : Option Addr) (ca cb : Nat) (w : World) (ha : IntsAt .i64 w a (vals h n)) (hb : IntsAt .i64 w b (vals h n)) (hl : n ≤ 64) :
    Calls Tryd.prog 12 #[.slice a n ca, .slice b n cb] w fun e w' => e = .returned (.bool true) ∧ Below w.heap.size w w' := by
  have H := ints_same (vals h n) a b ca cb w ha hb (by rw [vals_len]; unfold maxLen; omega)
  rw [vals_len] at H
  exact H

set_option maxHeartbeats 4000000 in
set_option maxRecDepth 100000 in
theorem tells_ok (k n : Nat) (xs : List Int) (ao : Option Addr) (cap : Nat) (W : World) (hg : Laid W) (hk : k ≤ 6) (hn : n = 2 ^ k) (hx : IntsAt .i64 W ao xs) (hw : ∀ j, wrap64 (xs.getD j 0) = xs.getD j 0) (hm : xs.length ≤ maxLen) :
    Calls Tryd.prog 3 #[.int .i64 k, .slice ao xs.length cap] W fun e w' => e = .returned (.bool true) ∧ Below W.heap.size W w' := by
  obtain ⟨i0, hi0, hz0, hz1, hz2⟩ := info_parts info3
  obtain ⟨i1, hi1, hy0, hy1, hy2⟩ := info_parts info22
  have hp := pow_wrap k hk
  have hn64 := pow_le hk
  have hn1 : 0 < n := by rw [hn]; exact Nat.two_pow_pos k
  rw [← hn] at hp hn64
  have HNN := Lib.hid hn; clear hn
  have HG := Lib.hid hg
  have HX := Lib.hid hx
  have HW := Lib.hid hw
  have HM := Lib.hid hm
  clear hg hx hw
  unfold maxLen at hm
  have hd1 : decide ((k : Int) < 0) = false := by simp
  have hd2 : decide ((6 : Int) < (k : Int)) = false := by simp; omega
  go_enter Tryd.func3, Tryd.ntmps3
  go_wp2_with fail
  refine (halved_any W).mono ?_
  rintro e w1 ⟨rfl, hb1⟩
  have HB1 := Lib.hid hb1; clear hb1
  go_wp2_with fail
  go_loopw [8, 7] (fun i v wr => ∃ r : Nat, i = .int .i64 r ∧ r ≤ n ∧ RowsOwn .i64 wr W.heap.size 22 v (tabS n r) ∧ Below W.heap.size W wr) (fun i _ _ => n - (intOf i).toNat)
  case atStart => exact ⟨0, rfl, by omega, RowsOwn.nil _ _ _ _, HB1.out⟩
  case round =>
    obtain ⟨r, rfl, hr, hrows, hb⟩ := hrel
    obtain ⟨wo, hwo⟩ : ∃ wo : World, wo = wr := ⟨_, rfl⟩
    rw [← hwo] at hrows hb ⊢
    clear hwo wr
    by_cases hrn : r < n
    · have hbsz := hb.size
      have HROWS := Lib.hid hrows
      have HB := Lib.hid hb
      clear hrows hb
      go_wp2_with fail
      rw [hp]
      go_loopw [10, 9] (fun j u wr => ∃ t : Nat, j = .int .i64 t ∧ t ≤ n ∧ wr.ownsRow wo.heap.size 3 1 u t ((rowS t r).map (Value.int .i64)) ∧ Below wo.heap.size wo wr) (fun j _ _ => n - (intOf j).toNat)
      case atStart => exact ⟨0, rfl, by omega, World.ownsRow_nil _ _ _ _, Below.refl _ _⟩
      case round =>
        obtain ⟨t, rfl, ht, hu, hbu⟩ := hrel
        by_cases htn : t < n
        · have hsz := hbu.size
          have HU := Lib.hid hu
          have HBU := Lib.hid hbu
          clear hu hbu
          go_wp2_with fail
          refine (signOf_any r t (by omega) (by omega) wr).mono ?_
          rintro e w2 ⟨rfl, rfl⟩
          go_wp2_with (at_builtin; refine wpList_push _ rfl _ _ 22 rfl wo.heap.size 3 i0 (.int .i64 0) 1 8 Tryd.underlying22 hi0 hz0 hz1 hz2 rfl (by decide) _ _ _ rfl (HU.out.alloc _) ⟨wr.heap.size, 0, none⟩ 1 [.int .i64 (sg r t)] rfl rfl (cell_one_new _ _ _) (one1 _ _) (by unfold maxLen; omega) (by omega) (by simp; omega) ?_)
          intro g cap w1 hu1 hg1
          have hb1 := (HBU.out.alloc hsz (.cells #[.int .i64 (sg r t)] 3)).grown hg1 (by simp; omega) (fun k hk => (HU.out.lt k hk).1)
          have hu2 : w1.ownsRow wo.heap.size 3 1 (.slice (some ⟨g, 0, none⟩) (t + 1) cap) (t + 1) ((rowS (t + 1) r).map (Value.int .i64)) := by unfold rowS at hu1 ⊢; rw [List.range_succ, List.map_append, List.map_append]; exact hu1
          have HU2 := Lib.hid hu2
          have HB2 := Lib.hid hb1
          clear hg1 hu1 hu2 hb1
          go_wp2_with fail
          go_roundw
          case rel => exact ⟨t + 1, by go_num, by omega, HU2.out, HB2.out⟩
          case measure => simp [intOf]; omega
        · have htn' : t = n := by omega
          subst htn'
          obtain ⟨ro, rc, hro⟩ := owns_shape hu
          subst hro
          have hrows1 := HROWS.out.below hbu
          have hrow := IntsAt.of_owns hu
          have hblk : ∀ g o s, ro = some ⟨g, o, s⟩ → wo.heap.size ≤ g ∧ g < wr.heap.size := fun g o s e => hu.lt g (by rw [e]; rfl)
          have hvl : ∀ svals v, wo.ownsRow W.heap.size 22 1 v (tabS t r).length svals → ∀ g, v.ownBlock = some g → g < wo.heap.size := fun svals v h g hg => (h.lt g hg).2
          obtain ⟨sv0, hsv0, hvv0⟩ := HROWS.out
          obtain ⟨svals, hsv, hvals⟩ := hrows1
          have hsz := hbu.size
          rw [tabS_len] at hsv
          have HB3 := Lib.hid (HB.out.trans (hbu.mono (by omega)))
          have HSV := Lib.hid hsv
          have HVALS := Lib.hid hvals
          have HROW := Lib.hid hrow
          have HBLK := Lib.hid hblk
          have HVL := Lib.hid (hvl sv0 _ hsv0)
          clear hsv hvals hrow hblk hvl hu hbu hvv0 hsv0 sv0
          go_wp2_with (at_builtin; refine wpList_push2 _ rfl _ _ 25 rfl W.heap.size 22 i1 (.slice none 0 0) 1 24 Tryd.underlying25 hi1 hy0 hy1 hy2 rfl (by decide) _ _ _ rfl (HSV.out.alloc _) ⟨wr.heap.size, 0, none⟩ 1 [.slice ro t rc] rfl rfl (cell_one_new _ _ _) (by intro u hu; simp at hu; subst hu; rfl) (by unfold maxLen; omega) (by omega) (by simp; omega) ?_)
          intro g cap w1 hs1 hg1 hat
          have hb1 := (HB3.out.alloc (by omega) (.cells #[.slice ro t rc] 22)).grown hg1 (by simp; omega) (fun k hk => (HSV.out.lt k hk).1)
          have hv1 := HVALS.out.push (n := r + 1) (cap := cap) (rc := rc) (by rw [tabS_len]; exact HSV.out) HROW.out (fun g o s e => ⟨fun h => by have := HVL.out g h; have := (HBLK.out g o s e).1; omega, (HBLK.out g o s e).2⟩) hg1 (hat.elim .inl (fun h => .inr (by omega)))
          rw [rowS_len, ← tabS_succ] at hv1
          have HS1 := Lib.hid hs1
          have HV1 := Lib.hid hv1
          have HB4 := Lib.hid hb1
          clear hg1 hat hs1 hv1 hb1
          go_wp2_with fail
          go_roundw
          case rel => exact ⟨r + 1, by go_num, by omega, ⟨_, by rw [tabS_len]; exact HS1.out, HV1.out⟩, HB4.out⟩
          case measure => simp [intOf]; omega
    · have hrn' : r = n := by omega
      subst hrn'
      obtain ⟨ro, rc, hro⟩ : ∃ ro rc, u7 = .slice ro r rc := by
        obtain ⟨sv, h, _⟩ := hrows
        obtain ⟨a, c, h⟩ := owns_shape h
        exact ⟨a, c, by rw [tabS_len] at h; exact h⟩
      subst hro
      have HROWS := Lib.hid hrows
      have HB := Lib.hid hb
      clear hrows hb
      go_wp2_with fail
      refine (table_ok k r wo hk HNN.out).mono ?_
      rintro e w2 ⟨g2, c2, rfl, hrows2, hb2⟩
      have HROWS2 := Lib.hid hrows2
      have HROWS1 := Lib.hid (HROWS.out.below hb2)
      have HB2 := Lib.hid (HB.out.trans (hb2.mono HB.out.size))
      clear hrows2 hb2 HROWS HB
      go_wp2_with fail
      refine (error_same .nilIface 0 (.inl ⟨rfl, rfl⟩) w2 (HG.out.below HB2.out)).mono ?_
      rintro e w3 ⟨rfl, hb3⟩
      have hRS := rows_same (tabS r r) _ _ (some ⟨g2, 0, none⟩) ro c2 rc w3 (by rw [tabS_len]; exact HROWS2.out.below hb3) (by rw [tabS_len]; exact HROWS1.out.below hb3) (by rw [tabS_len]; unfold maxLen; omega) (fun x hx => by
        obtain ⟨i, hi, rfl⟩ := List.mem_map.1 hx
        rw [rowS_len]; unfold maxLen; omega)
      rw [tabS_len] at hRS
      have HRS := Lib.hid hRS
      have HB3 := Lib.hid (HB2.out.trans (hb3.mono HB2.out.size))
      clear hb3 hRS HROWS1 HROWS2
      go_wp2_with fail
      refine HRS.out.mono ?_
      rintro e w4 ⟨rfl, hb4⟩
      have HB4 := Lib.hid (HB3.out.trans (hb4.mono HB3.out.size))
      clear hb4 HRS
      by_cases hln : xs.length = r
      · obtain rfl : xs.length = r := hln
        have hne : ((xs.length : Int) != (xs.length : Int)) = false := by simp
        have HE := Lib.hid (effectsOf_any xs ao cap w4 (HX.out.below (Nat.le_refl _) HB4.out) hn64)
        go_wp2_with fail
        refine HE.out.mono ?_
        clear HE
        rintro e w5 ⟨v5, rfl, hown5, hb5⟩
        obtain ⟨a5, c5, rfl⟩ := owns_shape hown5
        rw [R_E k xs.length _ HNN.out hk, R_vals] at hown5
        have HI5 := Lib.hid (IntsAt.of_owns hown5)
        have HB5 := Lib.hid (HB4.out.trans (hb5.mono HB4.out.size))
        have HBK := Lib.hid (backOf_any xs ao cap w5 (HX.out.below (Nat.le_refl _) HB5.out) hn64 hn1)
        clear hown5 hb5
        go_wp2_with fail
        refine HBK.out.mono ?_
        clear HBK
        rintro e w6 ⟨hb6, hp6⟩
        have HI6 := Lib.hid (HI5.out.below (Nat.le_refl _) hb6)
        have HB6 := Lib.hid (HB5.out.trans (hb6.mono HB5.out.size))
        have HIFF := Lib.hid (good_iff k xs.length xs HNN.out hk rfl)
        have HE := Lib.hid (effects_ok k xs ao cap w6 (HX.out.below (Nat.le_refl _) HB6.out) hk HNN.out HW.out)
        clear hb6
        rcases hp6 with ⟨hbad, rfl⟩ | ⟨hfine, v6, rfl, hown6⟩
        case' inl =>
          have HCASE := Lib.hid (show ¬ (∀ j, j < xs.length → good xs.length (xs.getD j 0) (wrap64 (G k (fun j => xs.getD j 0) j))) from fun h => by
            obtain ⟨j, hj, hb⟩ := hbad
            exact hb (HIFF.out.1 h j hj))
          clear hbad
        case' inr =>
          obtain ⟨a6, c6, rfl⟩ := owns_shape hown6
          have HCASE := Lib.hid (HIFF.out.2 hfine)
          rw [R_Ed k xs.length _ HNN.out hk, R_vals] at hown6
          have HV6 := Lib.hid (IntsAt.of_owns hown6)
          clear hown6 hfine
        all_goals
          go_wp2_with fail
          refine HE.out.mono ?_
          clear HE
          rintro e w7 ⟨g7, c7, rfl, hown7, hb7⟩
          rw [R_vals] at hown7
          have HI7 := Lib.hid (IntsAt.of_owns hown7)
          have HJ7 := Lib.hid (HI6.out.below (Nat.le_refl _) hb7)
          have HK7 := Lib.hid hb7
          have HB7 := Lib.hid (HB6.out.trans (hb7.mono HB6.out.size))
          clear hown7 hb7
          go_wp2_with fail
          refine (error_same .nilIface 0 (.inl ⟨rfl, rfl⟩) w7 (HG.out.below HB7.out)).mono ?_
          rintro e w8 ⟨rfl, hb8⟩
          have HV := Lib.hid (ints_vals _ xs.length (some ⟨g7, 0, none⟩) a5 c7 c5 w8 (HI7.out.below (Nat.le_refl _) hb8) (HJ7.out.below (Nat.le_refl _) hb8) hn64)
          have HK8 := Lib.hid (HK7.out.trans (hb8.mono HK7.out.size))
          have HB8 := Lib.hid (HB7.out.trans (hb8.mono HB7.out.size))
          clear hb8
          go_wp2_with fail
          refine HV.out.mono ?_
          clear HV
          rintro e w9 ⟨rfl, hb9⟩
          have HK9 := Lib.hid (HK8.out.trans (hb9.mono HK8.out.size))
          have HB9 := Lib.hid (HB8.out.trans (hb9.mono HB8.out.size))
          clear hb9
          have HBK := Lib.hid (back_any k xs ao cap w9 (HX.out.below (Nat.le_refl _) HB9.out) hk HNN.out HW.out)
          go_wp2_with fail
          refine HBK.out.mono ?_
          clear HBK
          rintro e w10 ⟨hb10, hp⟩
          have HK10 := Lib.hid (HK9.out.trans (hb10.mono HK9.out.size))
          have HB10 := Lib.hid (HB9.out.trans (hb10.mono HB9.out.size))
          clear hb10
        · rcases hp with ⟨⟨j, hj, hb⟩, _⟩ | ⟨_, g10, c10, rfl, hown10⟩
          · exact absurd (HCASE.out j hj) hb
          · rw [R_vals] at hown10
            have HI10 := Lib.hid (IntsAt.of_owns hown10)
            have HJ10 := Lib.hid (HV6.out.below (Nat.le_refl _) HK10.out)
            clear hown10
            go_wp2_with fail
            refine (error_same .nilIface 0 (.inl ⟨rfl, rfl⟩) w10 (HG.out.below HB10.out)).mono ?_
            rintro e w11 ⟨rfl, hb11⟩
            have HV := Lib.hid (ints_vals _ xs.length (some ⟨g10, 0, none⟩) a6 c10 c6 w11 (HI10.out.below (Nat.le_refl _) hb11) (HJ10.out.below (Nat.le_refl _) hb11) hn64)
            have HB11 := Lib.hid (HB10.out.trans (hb11.mono HB10.out.size)); clear hb11
            go_wp2_with fail
            refine HV.out.mono ?_
            rintro e w12 ⟨rfl, hb12⟩
            have HB12 := Lib.hid (HB11.out.trans (hb12.mono HB11.out.size)); clear hb12
            go_wp2_with fail
            go_ret
            exact ⟨rfl, HB12.out⟩
        · rcases hp with ⟨_, rfl⟩ | ⟨h, _⟩
          · go_wp2_with fail
            refine (error_same (.iface 24 (.int .i64 2)) 2 (.inr rfl) w10 (HG.out.below HB10.out)).mono ?_
            rintro e w11 ⟨rfl, hb11⟩
            have HB11 := Lib.hid (HB10.out.trans (hb11.mono HB10.out.size)); clear hb11
            go_wp2_with fail
            refine (ints_nil w11).mono ?_
            rintro e w12 ⟨rfl, hb12⟩
            have HB12 := Lib.hid (HB11.out.trans (hb12.mono HB11.out.size)); clear hb12
            go_wp2_with fail
            go_ret
            exact ⟨rfl, HB12.out⟩
          · exact absurd h HCASE.out
      · have hne : ((xs.length : Int) != (r : Int)) = true := by rw [bne_iff_ne]; omega
        have HLN := Lib.hid (show xs.length ≠ 2 ^ k by rw [← HNN.out]; exact hln)
        clear hln
        go_wp2_with fail
        refine (effects_form k ao xs.length cap w4 hk HLN.out).mono ?_
        rintro e w5 ⟨rfl, rfl⟩
        go_wp2_with fail
        refine (error_same _ 3 (.inr rfl) w4 (HG.out.below HB4.out)).mono ?_
        rintro e w5 ⟨rfl, hb5⟩
        have HB5 := Lib.hid (HB4.out.trans (hb5.mono HB4.out.size)); clear hb5
        go_wp2_with fail
        refine (ints_nil w5).mono ?_
        rintro e w6 ⟨rfl, hb6⟩
        have HB6 := Lib.hid (HB5.out.trans (hb6.mono HB5.out.size)); clear hb6
        go_wp2_with fail
        refine (back_form k ao xs.length cap w6 hk HLN.out).mono ?_
        rintro e w7 ⟨rfl, rfl⟩
        go_wp2_with fail
        refine (error_same _ 3 (.inr rfl) w6 (HG.out.below HB6.out)).mono ?_
        rintro e w7 ⟨rfl, hb7⟩
        have HB7 := Lib.hid (HB6.out.trans (hb7.mono HB6.out.size)); clear hb7
        go_wp2_with fail
        refine (ints_nil w7).mono ?_
        rintro e w8 ⟨rfl, hb8⟩
        have HB8 := Lib.hid (HB7.out.trans (hb8.mono HB7.out.size)); clear hb8
        go_wp2_with fail
        go_ret
        exact ⟨rfl, HB8.out⟩
end Go.Proofs.YtidmfodbmmkcmaaDoor
