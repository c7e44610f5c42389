/- slices.Grow of nil, slices.Concat of two, at [][]int; pairs.Rows. No conditions beyond sizes. -/
import Derived.Test.YtebkgkcfcenkgaaDoorPw4
import Derived.Test.YtebkgkcfcenkgaaDoorOuts
import Derived.Lib.AppendZeros
import Derived.StillTailTactics
namespace Go.Proofs.YtebkgkcfcenkgaaDoor
open Go.RowKit Go.Mine Go.Mine.Pw

theorem infoSS : (Tryd.prog.info? 22).map (fun i => (i.zero, i.size, i.bytes)) = some (some (.slice none 0 0), 1, 24) := by kernel_rfl
theorem growR_nil (n : Nat) (w : World) (hn : n * 24 ≤ 140737488355328) :
    Calls Tryd.prog 24 #[.slice none 0 0, .int .i64 n] w fun e w' => ∃ v', e = .returned v' ∧ w'.ownsRow w.heap.size 22 1 v' 0 [] ∧ Below w.heap.size w w' := by
  obtain ⟨i0, hi0, hz0, hz1, hz2⟩ := info_parts infoSS
  by_cases h0 : n = 0
  · subst h0
    go_enter Tryd.func24, Tryd.ntmps24
    go_wp2_with fail
    go_ret
    exact ⟨_, rfl, World.ownsRow_nil _ _ _ _, Below.refl _ _⟩
  · have hp : 0 < n := by omega
    have hd : decide ((n : Int) < 0) = false := by simp
    have hd2 : decide (0 < (n : Int)) = true := by simp; omega
    have hr := Lib.run_append_nil_zeros (P := Tryd.prog) w 23 3 23 22 i0 (.slice none 0 0) .i64 .i64 Tryd.underlying23 Tryd.underlying3 hi0 hz0 n hp (by omega) (by omega) (by rw [hz2]; omega)
    have hc := grownCap_le_maxLen w n 0 22 (by unfold maxLen; omega)
    have hg := grownCap_ge w n 0 22
    have HR := Lib.hid hr
    have HC := Lib.hid hc
    have HG := Lib.hid hg
    clear hr hc hg
    go_enter Tryd.func24, Tryd.ntmps24
    go_wp2_with (at_builtin; refine Lib.wpList_append_run _ rfl _ _ 23 3 rfl _ _ rfl rfl _ _ HR.out ?_)
    go_wp2_with fail
    go_ret
    exact ⟨_, rfl, (World.ownsRow_made (size := 1) w _ _ (Nat.le_refl _) HC.out (by have := HG.out; simp [size_zeroCells]; omega)).drew, ((Below.refl _ _).alloc (Nat.le_refl _) _).drew⟩

/-- Cells that lie there, wherever (nil too). -/
def ValsAt (w : World) (ao : Option Addr) (us : List Value) : Prop := ∀ ad, ao = some ad → ∀ j u, us[j]? = some u → w.cell? (ad.add j) = some u
theorem ValsAt.below {w w' : World} {ao : Option Addr} {us : List Value} (h : ValsAt w ao us) {B : Nat} (hB : w.heap.size ≤ B) (hb : Below B w w') : ValsAt w' ao us := fun ad ha j u hu => by
  have h1 := h ad ha j u hu
  exact (hb.cell (p := ad.add j) (Nat.lt_of_lt_of_le (World.block_lt_of_cell? w _ h1) hB)).trans h1
set_option maxHeartbeats 400000 in
theorem concatR_two (k : Nat) (a1 a2 : Option Addr) (n1 n2 c1 c2 : Nat) (us vs : List Value) (w : World) (h1 : w.cell? ⟨k, 0, none⟩ = some (.slice a1 n1 c1)) (h2 : w.cell? ⟨k, 1, none⟩ = some (.slice a2 n2 c2))
    (hx : ValsAt w a1 us) (hy : ValsAt w a2 vs) (hul : us.length = n1) (hvl : vs.length = n2) (ho1 : ∀ u ∈ us, u.oneCell' = true) (ho2 : ∀ u ∈ vs, u.oneCell' = true) (hn1 : a1 = none → n1 = 0) (hn2 : a2 = none → n2 = 0) (hl : n1 + n2 ≤ 10000) :
    Calls Tryd.prog 16 #[.slice (some ⟨k, 0, none⟩) 2 2] w fun e w' => ∃ v', e = .returned v' ∧ w'.ownsRow w.heap.size 22 1 v' (n1 + n2) (us ++ vs) ∧ Below w.heap.size w w' := by
  obtain ⟨i0, hi0, hz0, hz1, hz2⟩ := info_parts infoSS
  have hk := World.block_lt_of_cell? w _ h1
  have HX := Lib.hid hx
  have HY := Lib.hid hy
  have HN1 := Lib.hid hn1
  have HN2 := Lib.hid hn2
  have HU := Lib.hid (And.intro hul ho1)
  have HV := Lib.hid (And.intro hvl ho2)
  clear hx hy hn1 hn2 hul hvl ho1 ho2
  have hd1 : decide ((n1 : Int) < 0) = false := by simp
  have hd2 : decide ((n1 : Int) + (n2 : Int) < 0) = false := by simp; omega
  go_enter Tryd.func16, Tryd.ntmps16
  go_wp2_with fail
  go_loop [3, 11] (fun s i => (i = .int .i64 0 ∧ s = .int .i64 0) ∨ (i = .int .i64 1 ∧ s = .int .i64 n1) ∨ (i = .int .i64 2 ∧ s = .int .i64 ((n1 + n2 : Nat) : Int))) (fun _ i => 2 - (intOf i).toNat)
  case atStart => exact .inl ⟨rfl, rfl⟩
  case round =>
    rcases hrel with ⟨rfl, rfl⟩ | ⟨rfl, rfl⟩ | ⟨rfl, rfl⟩
    · go_wp2_with fail
      go_round
      case rel => exact .inr (.inl ⟨rfl, by go_num⟩)
      case measure => simp [intOf]
    · go_wp2_with fail
      go_round
      case rel => exact .inr (.inr ⟨rfl, by go_num⟩)
      case measure => simp [intOf]
    · have G := growR_nil (n1 + n2) w (by omega)
      clear hd1 hd2
      go_wp2_with fail
      refine G.mono ?_
      rintro e w1 ⟨v1, rfl, ho1, hb1⟩
      have H1 := Lib.hid h1
      have H2 := Lib.hid h2
      clear h1 h2 G
      go_wp2_with fail
      go_loopw [6, 27] (fun v i wr => ∃ (acc : List Value) (m : Nat), wr.ownsRow w.heap.size 22 1 v m acc ∧ Below w.heap.size w wr ∧ ((i = .int .i64 0 ∧ acc = [] ∧ m = 0) ∨ (i = .int .i64 1 ∧ acc = us ∧ m = n1) ∨ (i = .int .i64 2 ∧ acc = us ++ vs ∧ m = n1 + n2))) (fun _ i _ => 2 - (intOf i).toNat)
      case atStart => exact ⟨[], 0, ho1, hb1, .inl ⟨rfl, rfl, rfl⟩⟩
      case round =>
        obtain ⟨acc, m, ho, hb, hi⟩ := hrel
        have hs := hb.size
        rcases hi with ⟨rfl, rfl, rfl⟩ | ⟨rfl, rfl, rfl⟩ | ⟨rfl, rfl, rfl⟩
        · have hc1 := (hb.cell (p := ⟨k, 0, none⟩) hk).trans H1.out
          go_wp2_with (at_builtin; refine wpList_append_all _ rfl _ _ 23 rfl w.heap.size 22 i0 (.slice none 0 0) 1 24 Tryd.underlying23 hi0 hz0 hz1 hz2 rfl (by decide) _ 0 [] rfl ho a1 n1 c1 us rfl (by rw [HU.out.1, Nat.mul_one]) HN1.out (HX.out.below (Nat.le_refl _) hb) HU.out.2 (by unfold maxLen; omega) (by omega) hs ?_)
          intro v' w' hown hg
          have hb' : Below w.heap.size w w' := hb.grown hg hs (fun k hk => (ho.lt k hk).1)
          clear hg hc1
          go_wp2_with fail
          go_roundw
          case rel => exact ⟨us, n1, by simpa using hown, hb', .inr (.inl ⟨rfl, rfl, rfl⟩)⟩
          case measure => simp [intOf]
        · have hc2 := (hb.cell (p := ⟨k, 1, none⟩) hk).trans H2.out
          go_wp2_with (at_builtin; refine wpList_append_all _ rfl _ _ 23 rfl w.heap.size 22 i0 (.slice none 0 0) 1 24 Tryd.underlying23 hi0 hz0 hz1 hz2 rfl (by decide) _ m _ rfl ho a2 n2 c2 vs rfl (by rw [HV.out.1, Nat.mul_one]) HN2.out (HY.out.below (Nat.le_refl _) hb) HV.out.2 (by unfold maxLen; omega) (by omega) hs ?_)
          intro v' w' hown hg
          have hb' : Below w.heap.size w w' := hb.grown hg hs (fun k hk => (ho.lt k hk).1)
          clear hg hc2
          go_wp2_with fail
          go_roundw
          case rel => exact ⟨acc ++ vs, m + n2, hown, hb', .inr (.inr ⟨rfl, rfl, rfl⟩)⟩
          case measure => simp [intOf]
        · go_wp2_with fail
          go_ret
          exact ⟨_, rfl, ho, hb⟩

theorem _root_.Go.Mine.RVals.cut {w : World} {vs : List Value} {rows : List (List Int)} (h : RVals w vs rows) (j : Nat) : RVals w (vs.take j) (rows.take j) ∧ RVals w (vs.drop j) (rows.drop j) := by
  induction h generalizing j with
  | nil => simp; exact .nil
  | cons h1 h2 h3 h4 hh ih =>
    cases j with
    | zero => exact ⟨by simp; exact .nil, .cons h1 h2 h3 h4 hh⟩
    | succ j => exact ⟨.cons h1 h2 h3 h4 (ih j).1, (ih j).2⟩
/-- rows[:j] and rows[hi:], one behind the other. -/
theorem restR_of {wr : World} {g og cap : Nat} {rows : List (List Int)} (hr : RowsAt wr (some ⟨g, og, none⟩) rows) (hl : rows.length ≤ 4000) (j hi : Nat) (hj : j ≤ rows.length) (hhi : hi ≤ rows.length) (a2 : Option Addr) (n2 c2 : Nat) (hn2 : n2 = rows.length - hi)
    (h2 : n2 = 0 ∨ a2 = some ⟨g, og + hi, none⟩) (h2n : a2 = none → n2 = 0) :
    Calls Tryd.prog 16 #[.slice (some ⟨wr.heap.size, 0, none⟩) 2 2] (wr.alloc (.cells #[.slice (some ⟨g, og, none⟩) j cap, .slice a2 n2 c2] 23)).drew fun e w' => (∃ ao cap, e = .returned (.slice ao (rows.take j ++ rows.drop hi).length cap) ∧ RowsAt w' ao (rows.take j ++ rows.drop hi) ∧ (ao = none → (rows.take j ++ rows.drop hi).length = 0) ∧ (rows.take j ++ rows.drop hi).length ≤ cap) ∧ Below wr.heap.size wr w' := by
  have hb : Below wr.heap.size wr (wr.alloc (.cells #[.slice (some ⟨g, og, none⟩) j cap, .slice a2 n2 c2] 23)).drew := ((Below.refl _ _).alloc (Nat.le_refl _) _).drew
  obtain ⟨vs, hv, hc⟩ := hr.vals
  have hvl := hv.len
  have hc' : ∀ j u, vs[j]? = some u → wr.cell? ⟨g, og + j, none⟩ = some u := fun j u hu => by
    have := hc _ rfl j u hu
    rwa [WideShapes.add_plain] at this
  have hcut1 := (hv.cut j).1
  have hcut2 := (hv.cut hi).2
  refine (concatR_two wr.heap.size (some ⟨g, og, none⟩) a2 j n2 cap c2 (vs.take j) (vs.drop hi) _ ?_ ?_ ?_ ?_ (by rw [List.length_take]; omega) (by rw [List.length_drop]; omega) hcut1.one1 hcut2.one1 (fun h => by cases h) h2n (by omega)).mono ?_
  · simp [go_sem]
  · simp [go_sem]
  · refine ValsAt.below (w := wr) (fun ad ha i u hu => ?_) (Nat.le_refl _) hb
    cases ha
    rw [WideShapes.add_plain]
    refine hc' i u ?_
    rw [List.getElem?_take] at hu
    split at hu
    · exact hu
    · cases hu
  · refine ValsAt.below (w := wr) (fun ad ha i u hu => ?_) (Nat.le_refl _) hb
    rcases h2 with h2 | h2
    · exfalso
      have : i < (vs.drop hi).length := by
        rcases Nat.lt_or_ge i (vs.drop hi).length with h | h
        · exact h
        · rw [List.getElem?_eq_none h] at hu; cases hu
      rw [List.length_drop] at this
      omega
    · rw [h2] at ha
      cases ha
      rw [WideShapes.add_plain, Nat.add_assoc]
      refine hc' _ u ?_
      rw [List.getElem?_drop] at hu
      exact hu
  · rintro e w' ⟨v', rfl, ho, hb'⟩
    have hv' : RVals w' (vs.take j ++ vs.drop hi) (rows.take j ++ rows.drop hi) := by
      have h := hcut1.append hcut2
      exact (h.keep hb).keep (hb'.mono (Nat.le_refl _))
    have hlen : (rows.take j ++ rows.drop hi).length = j + n2 := by rw [List.length_append, List.length_take, List.length_drop]; omega
    obtain ⟨ao, cap', rfl⟩ := owns_shape ho
    have hcap := own_cap ho
    refine ⟨⟨ao, cap', by rw [hlen], RowsAt.of_owns ho hv', by rw [hlen]; exact hcap.2, by rw [hlen]; exact hcap.1⟩, hb.trans (hb'.mono hb.size)⟩
def lenOf : Value → Nat
  | .slice _ n _ => n
  | _ => 0
/-- What Rows tells. -/
def PRows (L : List Int) (e : Ending) (w' : World) : Prop :=
  (¬ okL L ∧ e = .returned (.tuple #[.slice none 0 0, .iface 24 (.int .i64 (pfault L))])) ∨
  (okL L ∧ ∃ (rows : List (List Int)) (ao : Option Addr) (cap : Nat), e = .returned (.tuple #[.slice ao rows.length cap, .nilIface]) ∧ RowsAt w' ao rows ∧ Least L rows ∧ (ao = none → rows.length = 0) ∧ rows.length ≤ cap ∧ rows.length ≤ 3600)
set_option maxHeartbeats 2000000 in
set_option maxRecDepth 100000 in
theorem Rows_any (L : List Int) (lo : Option Addr) (lc : Nat) (W : World) (hx : IntsAt .i64 W lo L) (hl : L.length ≤ maxLen) :
    Calls Tryd.prog 11 #[.slice lo L.length lc] W fun e w' => PRows L e w' ∧ Below W.heap.size W w' := by
  obtain ⟨i0, hi0, hz0, hz1, hz2⟩ := info_parts infoSS
  have HC := Lib.hid (pwcheck_any L lo lc W hx hl)
  have HX := Lib.hid (fun (w : World) (h : Below W.heap.size W w) => hx.below (Nat.le_refl _) h)
  unfold maxLen at hl
  clear hx
  go_enter Tryd.func11, Tryd.ntmps11
  go_wp2_with fail
  refine HC.out.mono ?_
  clear HC
  rintro e w1 ⟨⟨hs, rfl⟩ | ⟨hs, rfl⟩, rfl⟩
  rotate_left
  · have HS := Lib.hid hs
    clear hs
    go_wp2_with fail
    go_ret2
    exact ⟨.inl ⟨HS.out, rfl⟩, Below.refl _ _⟩
  have HS := Lib.hid hs
  have HALL := Lib.hid (all_any L lo lc W (HX.out W (Below.refl _ _)) hs)
  clear hs
  go_wp2_with fail
  refine HALL.out.mono ?_
  clear HALL
  rintro e w2 ⟨v2, rfl, ho2, hb2⟩
  obtain ⟨ao2, cap2, hv2⟩ := owns_shape ho2
  subst hv2
  have HF2 := Lib.hid (FoursAt.of_owns (St_four L) ho2)
  have HB2 := Lib.hid hb2
  have HL2 := Lib.hid (allP_len HS.out)
  have HM2 := Lib.hid (missP_nil L)
  clear ho2 hb2
  go_wp2_with fail
  go_loopw [5, 6] (fun rv ov wr => ∃ (rows : List (List Int)) (vs : List Value) (oo : Option Addr) (oc n : Nat), ov = .slice oo n oc ∧ RowKit.Hid (n = (missP L rows).length ∧ FoursAt wr oo (missP L rows)) ∧ RowKit.Hid (Outs W wr 22 rv vs rows) ∧ RowKit.Hid (okRows L rows) ∧ rows.length + n ≤ 3600) (fun _ ov _ => lenOf ov)
  case atStart => exact ⟨[], [], ao2, cap2, _, rfl, Lib.hid ⟨by rw [HM2.out], by rw [HM2.out]; exact HF2.out⟩, Lib.hid (Outs.nil HB2.out), Lib.hid (fun r hr => by cases hr), by have := HL2.out; simp; omega⟩
  clear HF2 HB2 HL2 HM2
  case round =>
    obtain ⟨rows, vs, oo, oc, n, rfl, hf, hout, hok, hn⟩ := hrel
    have HF := Lib.hid hf.out.2
    have HN := Lib.hid hf.out.1
    have HO := Lib.hid hout.out
    have HK := Lib.hid hok.out
    clear hf hout hok
    by_cases hn0 : 0 < n
    · have hd : decide ((0 : Int) < (n : Int)) = true := by simp; omega
      have HNX := Lib.hid (next_any L (missP L rows) lo oo lc oc wr (HX.out wr HO.out.below) HS.out HF.out (fun p hp => (mem_miss.1 hp).1) (by rw [← HN.out]; exact hn0) (by rw [← HN.out]; omega))
      rw [← HN.out] at HNX
      have hs1 := HO.out.below.size
      obtain ⟨wa, hwa⟩ : ∃ wa, wa = wr := ⟨_, rfl⟩
      subst hwa
      go_wp2_with fail
      go_fit HNX.out
      clear HNX
      rintro e w4 ⟨g, row, rfl, ho4, hrow, hhas, hb4⟩
      have hrl : row.length = L.length := hrow.1
      have HRI := Lib.hid (show IntsAt .i64 w4 (some ⟨g, 0, none⟩) row from IntsAt.of_owns ho4)
      have HO2 := Lib.hid (HO.out.keep hb4)
      have HRO := Lib.hid (own_off ho4 (ov := u5) (fun b hb => (HO.out.own.lt b hb).2))
      have hs4 := HO2.out.below.size
      have HOW := Lib.hid HO2.out.own
      have HRL := Lib.hid hrl
      have hp0 : (missP L rows).getD 0 [] ∈ missP L rows := by have := HN.out; simp [show 0 < (missP L rows).length by omega]
      have HLESS := Lib.hid (missP_less hp0 hhas)
      have HOKR := Lib.hid (show okRows L (rows ++ [row]) from fun r hr => by
        rcases List.mem_append.1 hr with hr | hr
        · exact HK.out r hr
        · rw [List.mem_singleton.1 hr]; exact hrow)
      clear ho4 hrow hhas hb4 hrl hp0
      go_wp2_with (at_builtin; refine wpList_push2 _ rfl _ _ 23 rfl W.heap.size 22 i0 (.slice none 0 0) 1 24 Tryd.underlying23 hi0 hz0 hz1 hz2 rfl (by decide) _ _ _ rfl (HOW.out.alloc _) ⟨w4.heap.size, 0, none⟩ 1 [.slice (some ⟨g, 0, none⟩) L.length L.length] rfl rfl (cell_one_new _ _ _) (by intro u hu; simp at hu; subst hu; rfl) (by unfold maxLen; omega) (by omega) (by simp; omega) ?_)
      intro g7 cap w7 ho7 hg7 hw7
      have HO8 := Lib.hid (HO2.out.push (r := row) HRL.out HRI.out (by unfold maxLen; omega) (fun h => by cases h) (Nat.le_refl _) HRO.out rfl ho7 hg7 hw7)
      have hm : rows.length + 1 = (rows ++ [row]).length := by simp
      have HMS := Lib.hid (missing_any L (rows ++ [row]) lo (some ⟨g7, 0, none⟩) lc cap w7 (HX.out w7 HO8.out.below) HS.out HO8.out.rowsAt (by rw [← hm]; unfold maxLen; omega) (fun r hr => (HOKR.out r hr).1))
      rw [← hm] at HMS
      have HM := Lib.hid hm
      clear ho7 hg7 hw7 hm HO HO2 HOW
      go_wp2_with fail
      go_fit HMS.out
      clear HMS
      rintro e w8 ⟨⟨oo8, oc8, rfl, hf8⟩, hb8⟩
      have HF8 := Lib.hid hf8
      have HO9 := Lib.hid (HO8.out.keep hb8)
      clear hf8 hb8
      go_wp2_with fail
      go_roundw
      case rel => exact ⟨rows ++ [row], _, oo8, oc8, _, rfl, Lib.hid ⟨rfl, HF8.out⟩, HO9, HOKR, by have h1 := HLESS.out; have h2 := HM.out; have h3 := HN.out; omega⟩
      case measure => simp only [lenOf]; have h1 := HLESS.out; have h3 := HN.out; omega
    · have hd : decide ((0 : Int) < (n : Int)) = false := by simp; omega
      obtain ⟨ao, cap, hve⟩ := HO.out.shape
      subst hve
      have hcap := own_cap HO.out.own
      have HM0 := Lib.hid (show missP L rows = [] from List.eq_nil_of_length_eq_zero (by have := HN.out; omega))
      have HR := Lib.hid HO.out.rowsAt
      have HB := Lib.hid HO.out.below
      have hrl : rows.length ≤ 3600 := by omega
      have HCAP := Lib.hid hcap
      have HNEED := Lib.hid (show NeedFrom L rows rows.length from fun k h1 h2 => by omega)
      clear HO HF HN hn hcap
      go_wp2_with fail
      go_loopw [5, 7] (fun rv iv wr => ∃ (rows : List (List Int)) (ao : Option Addr) (cap i : Nat), rv = .slice ao rows.length cap ∧ iv = .int .i64 ((i : Int) - 1) ∧ i ≤ rows.length ∧ rows.length ≤ 3600 ∧ RowKit.Hid (RowsAt wr ao rows ∧ (ao = none → rows.length = 0) ∧ rows.length ≤ cap) ∧ RowKit.Hid (okRows L rows ∧ missP L rows = [] ∧ NeedFrom L rows i) ∧ RowKit.Hid (Below W.heap.size W wr)) (fun _ iv _ => (intOf iv + 1).toNat)
      case atStart => exact ⟨rows, ao, cap, rows.length, rfl, rfl, by omega, hrl, Lib.hid ⟨HR.out, HCAP.out.2, HCAP.out.1⟩, Lib.hid ⟨HK.out, HM0.out, HNEED.out⟩, HB⟩
      clear HR HCAP HK HM0 HNEED HB hrl
      case round =>
        obtain ⟨rows, ao, cap, i, rfl, rfl, hi, hrl, hra, hrn, hb⟩ := hrel
        cases i with
        | zero =>
          have HLE := Lib.hid (show Least L rows from ⟨hrn.out.1, hrn.out.2.1, hrn.out.2.2⟩)
          have HRA := Lib.hid hra.out
          have HB := Lib.hid hb.out
          clear hra hrn hb
          go_wp2_with fail
          go_ret2
          exact ⟨.inr ⟨HS.out, rows, ao, cap, rfl, HRA.out.1, HLE.out, HRA.out.2.1, HRA.out.2.2, hrl⟩, HB.out⟩
        | succ j =>
          have ej : ((j + 1 : Nat) : Int) - 1 = (j : Int) := by omega
          rw [ej]
          clear ej
          have hj0 : (0 : Int) ≤ (j : Int) := by omega
          obtain ⟨g, og, ro, rc, hao, _⟩ := hra.out.1 j (by omega)
          subst hao
          have hcp := hra.out.2.2
          obtain ⟨hi', hhi⟩ : ∃ hi', hi' = j + 1 := ⟨_, rfl⟩
          have hji : (j : Int) + 1 = (hi' : Int) := by omega
          have hwr : IntKind.i64.wrap (hi' : Int) = hi' := by rw [IntKind.wrap_i64]; omega
          have hhl : hi' ≤ rows.length := by omega
          have hhc : hi' ≤ cap := by omega
          have hjc : j ≤ cap := by omega
          have her : rows.take j ++ rows.drop hi' = rows.eraseIdx j := by rw [List.eraseIdx_eq_take_drop_succ, hhi]
          have HER := Lib.hid her
          have HRA := Lib.hid hra.out
          have HRN := Lib.hid hrn.out
          have HB := Lib.hid hb.out
          have hbs := hb.out.size
          have hjl : j < rows.length := by omega
          have HLEN := Lib.hid (List.length_eraseIdx_of_lt hjl)
          clear her hra hrn hb
          by_cases hcap : cap = hi'
          case' pos =>
            obtain rfl : hi' = rows.length := by omega
            subst hcap
            have R := Lib.hid (restR_of (cap := rows.length) HRA.out.1 (by omega) j rows.length (by omega) (by omega) (some ⟨g, og, none⟩) 0 0 (by omega) (.inl rfl) (fun h => by cases h))
            rw [HER.out] at R
            clear hhi
            go_wp2_with fail
            go_still_tail 7, (by kernel_rfl)
            go_wp2_with fail
            go_fit R.out
            clear R
            rintro e w5 ⟨⟨a5, c5, rfl, hr5, hn5, hc5⟩, hb5⟩
          case' neg =>
            have R := Lib.hid (restR_of (cap := cap) HRA.out.1 (by omega) j hi' (by omega) hhl (some ⟨g, og + hi', none⟩) (rows.length - hi') (cap - hi') rfl (.inr rfl) (fun h => by cases h))
            rw [HER.out] at R
            clear hhi
            go_wp2_with fail
            go_still_tail 7, (by kernel_rfl)
            go_wp2_with fail
            go_fit R.out
            clear R
            rintro e w5 ⟨⟨a5, c5, rfl, hr5, hn5, hc5⟩, hb5⟩
          all_goals
            have hb6 := HB.out.trans (hb5.mono hbs)
            have hok6 : okRows L (rows.eraseIdx j) := fun r hr => HRN.out.1 r (mem_eraseIdx_sub hr)
            have HMS := Lib.hid (missing_any L (rows.eraseIdx j) lo a5 lc c5 w5 (HX.out w5 hb6) HS.out hr5 (by have := HLEN.out; unfold maxLen; omega) (fun r hr => (hok6 r hr).1))
            have HR6 := Lib.hid (fun (w6 : World) (hw : Below w5.heap.size w5 w6) => And.intro (HRA.out.1.below (Nat.le_refl _) (hb5.trans (hw.mono hb5.size))) (hr5.below (Nat.le_refl _) hw))
            have HN5 := Lib.hid (And.intro hn5 hc5)
            have HB6 := Lib.hid hb6
            have HOK6 := Lib.hid hok6
            clear hb6 hok6 hr5 hn5 hc5 hb5 HB
            go_wp2_with fail
            go_fit HMS.out
            clear HMS
            rintro e w6 ⟨⟨a6, c6, rfl, _⟩, hb7⟩
            have hrr := HR6.out w6 hb7
            have HRO := Lib.hid hrr.1
            have HRE := Lib.hid hrr.2
            have HB7 := Lib.hid (HB6.out.trans (hb7.mono HB6.out.size))
            clear hb7 hrr HR6 HB6
            by_cases hm0 : (missP L (rows.eraseIdx j)).length = 0
            · have hd2 : (((missP L (rows.eraseIdx j)).length : Int) == 0) = true := by rw [beq_iff_eq]; omega
              have HM6 := Lib.hid (List.eq_nil_of_length_eq_zero hm0)
              have HNF := Lib.hid (HRN.out.2.2.cut hjl)
              clear hm0
              go_wp2_with fail
              go_roundw
              case rel => exact ⟨rows.eraseIdx j, a5, c5, j, rfl, by first | rfl | go_num, by have := HLEN.out; omega, by have := HLEN.out; omega, Lib.hid ⟨HRE.out, HN5.out⟩, Lib.hid ⟨HOK6.out, HM6.out, HNF.out⟩, HB7⟩
              case measure => simp [intOf]
            · have hd2 : (((missP L (rows.eraseIdx j)).length : Int) == 0) = false := by rw [beq_eq_false_iff_ne]; omega
              have HNF := Lib.hid (HRN.out.2.2.stay (fun h => hm0 (by rw [h]; rfl)))
              clear hm0
              go_wp2_with fail
              go_roundw
              case rel => exact ⟨rows, some ⟨g, og, none⟩, _, j, rfl, by first | rfl | go_num, by omega, hrl, Lib.hid ⟨HRO.out, HRA.out.2⟩, Lib.hid ⟨HRN.out.1, HRN.out.2.1, HNF.out⟩, HB7⟩
              case measure => simp [intOf]
end Go.Proofs.YtebkgkcfcenkgaaDoor
