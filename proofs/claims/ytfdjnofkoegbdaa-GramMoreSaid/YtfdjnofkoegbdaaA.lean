/- GramMore's walk. -/
import Derived.Test.YtfdjnofkoegbdaaGram4
import Derived.Test.YtfdjnofkoegbdaaRows4
import Derived.Test.YtfdjnofkoegbdaaMore
namespace Go.Proofs.Ytfdjnofkoegbdaa
open Go.RowKit Go.Mine Go.Mine.Gram

theorem infoRow : (Try.prog.info? 23).map (fun i => (i.zero, i.size, i.bytes)) = some (some (.slice none 0 0), 1, 24) := by kernel_rfl
theorem infoGrid : (Try.prog.info? 28).map (fun i => (i.zero, i.size, i.bytes)) = some (some (.slice none 0 0), 1, 24) := by kernel_rfl

set_option maxHeartbeats 4000000 in
set_option maxRecDepth 100000 in
theorem gramMore_walk (g : List (List (List Int))) (rule ws : List Int) (go' ro wo : Option Addr) (gc rc wc : Nat) (W : World) (hx : GridAt W go' g) (hl : g.length ≤ maxLen) (hgc : g.length ≤ gc) (hr : IntsAt .i64 W ro rule) (hrl : rule.length ≤ maxLen) (hrn : ro = none → rule.length = 0) (hrc : rule.length ≤ rc)
    (hw : IntsAt .i64 W wo ws) (hwl : ws.length ≤ maxLen) :
    Calls Try.prog 3 #[.slice go' g.length gc, .slice ro rule.length rc, .slice wo ws.length wc] W fun e w' => e = .returned (.bool true) ∧ Below W.heap.size W w' := by
  obtain ⟨i1, hi1, hz1, hs1, hy1⟩ := info_parts infoRow
  obtain ⟨i2, hi2, hz2, hs2, hy2⟩ := info_parts infoGrid
  have HX := Lib.hid (show ∀ w, Below W.heap.size W w → GridAt w go' g ∧ IntsAt .i64 w ro rule ∧ IntsAt .i64 w wo ws from fun w hb => ⟨hx.below (Nat.le_refl _) hb, hr.below (Nat.le_refl _) hb, hw.below (Nat.le_refl _) hb⟩)
  have HL := Lib.hid (And.intro hl (And.intro hrl hwl))
  have HXW := Lib.hid hx
  clear hx hr hw
  go_enter Try.func3, Try.ntmps3
  go_wp2_with fail
  refine (grammar_true W).mono ?_
  rintro e w1 ⟨rfl, hb1⟩
  have HC := Lib.hid (gcheck_any g go' gc w1 (HX.out w1 hb1).1 hl)
  have HB1 := Lib.hid hb1
  clear hb1
  go_wp2_with fail
  refine HC.out.mono ?_
  clear HC
  rintro e w2 ⟨⟨hok, rfl⟩ | ⟨hno, rfl⟩, rfl⟩
  rotate_left
  · clear hno
    go_wp2_with fail
    go_ret
    exact ⟨rfl, HB1.out⟩
  obtain ⟨r0, gs, rfl⟩ : ∃ r0 gs, g = r0 :: gs := by
    cases g with
    | nil => have := hok.1; simp at this
    | cons r0 gs => exact ⟨r0, gs, rfl⟩
  have HOK := Lib.hid hok
  have hr6 : r0.length ≤ 6 := (hok.2.2 0 (by simp)).1
  have hg5 : gs.length ≤ 4 := by have := hok.2.1; simp at this; omega
  obtain ⟨bg, og, r0o, r0c, rfl, _, hr0n, hr0c, hr0, hcell⟩ := HXW.out.get (j := 0) (by simp)
  have hs1' := HB1.out.size
  have hbE : Below W.heap.size W (w1.alloc (.cells #[] 23)) := HB1.out.alloc hs1' _
  have hc0 := hcell _ hbE
  simp only [List.getD_cons_zero, Nat.add_zero] at hc0 hr0 hr0n hr0c
  have HR0 := Lib.hid hr0
  have hgl : (r0 :: gs).length = gs.length + 1 := by simp
  rw [hgl] at hgc ⊢
  obtain ⟨vs0, hv0, hn0⟩ := hr0.vals
  have HV0 := Lib.hid (show ∀ w, Below W.heap.size W w → RVals w vs0 r0 from fun w hb => hv0.keep hb)
  have hvl0 := hv0.len
  have h10 := hv0.one1
  have HN0 := Lib.hid (show ∀ w, Below W.heap.size W w → ∀ ad, r0o = some ad → ∀ j u, vs0[j]? = some u → w.cell? (ad.add j) = some u from fun w hb ad had j u hu => (hb.cell (World.block_lt_of_cell? W _ (hn0 ad had j u hu))).trans (hn0 ad had j u hu))
  obtain ⟨vsg, hvg, hng⟩ := (HXW.out.tail).vals
  have HVG := Lib.hid (show ∀ w, Below W.heap.size W w → GVals w vsg gs from fun w hb => hvg.keep hb)
  have hvlg := hvg.len
  have h1g := hvg.one1
  have HNG := Lib.hid (show ∀ w, Below W.heap.size W w → ∀ j u, vsg[j]? = some u → w.cell? ((⟨bg, og + 1, none⟩ : Addr).add j) = some u from fun w hb j u hu => (hb.cell (World.block_lt_of_cell? W _ (hng _ rfl j u hu))).trans (hng _ rfl j u hu))
  have HBE := Lib.hid hbE
  have hoE : (w1.alloc (.cells #[] 23)).ownsRow w1.heap.size 23 1 (.slice (some ⟨w1.heap.size, 0, none⟩) 0 0) 0 [] :=
    World.ownsRow_lit w1 #[] 0 (Nat.le_refl _) (by simp [maxLen]) rfl
  have HOE := Lib.hid hoE
  have HONE := Lib.hid h10
  have HONG := Lib.hid h1g
  have hgcg : gs.length ≤ gc - 1 := by omega
  clear hok hcell hr0 hbE hv0 hn0 hoE hvg hng h10 h1g
  go_wp2_with (at_builtin; refine wpList_append_any _ rfl _ _ 28 rfl w1.heap.size 23 i1 (.slice none 0 0) 1 24 Try.underlying28 hi1 hz1 hs1 hy1 rfl (by decide) w1.heap.size 0 0 [] rfl HOE.out r0o r0.length r0c vs0 rfl (by omega) hr0n (HN0.out _ HBE.out) HONE.out (by unfold maxLen; omega) (by omega) (by simp) _ rfl ?_)
  intro g3 c3 w3 ho3 hg3 hat3 hlt3
  have hb3 := HBE.out.grown hg3 (by simp; omega) (fun k hk => by simp only [Option.some.injEq] at hk; omega)
  have hs3 := hb3.size
  have hg31 := (ho3.lt g3 rfl).1
  have HO3 := Lib.hid ho3
  have HB3 := Lib.hid hb3
  clear hg3 ho3 hb3 HOE hc0
  go_wp2_with (at_builtin; refine wpList_append_any _ rfl _ _ 28 rfl w1.heap.size 23 i1 (.slice none 0 0) 1 24 Try.underlying28 hi1 hz1 hs1 hy1 rfl (by decide) g3 r0.length c3 vs0 rfl (HO3.out.alloc _) (some ⟨w3.heap.size, 0, none⟩) 1 1 [.slice ro rule.length rc] rfl rfl (fun h => by cases h) (fun ad had => by cases had; exact cell_one_new _ _ _) (by intro u hu; simp at hu; subst hu; rfl) (by unfold maxLen; omega) (by omega) (by simp; omega) _ rfl ?_)
  intro g4 c4 w4 ho4 hg4 hat4 hlt4
  have hb4 := (HB3.out.alloc hs3 (.cells #[.slice ro rule.length rc] 23)).grown hg4 (by simp; omega) (fun k hk => by simp only [Option.some.injEq] at hk; omega)
  have hs4 := hb4.size
  have HRW4 := Lib.hid (show ∀ w, Below w4.heap.size w4 w → RowsAt w (some ⟨g4, 0, none⟩) (r0 ++ [rule]) from fun w hw => (RowsAt.of_owns ho4 ((HV0.out w4 hb4).append (.cons (HX.out w4 hb4).2.1 hrl hrn hrc .nil))).below (Nat.le_refl _) hw)
  obtain ⟨w5, hw5⟩ : ∃ w5, w5 = w4.alloc (.cells #[.slice (some ⟨g4, 0, none⟩) (r0.length + 1) c4] 28) := ⟨_, rfl⟩
  have hb5 : Below W.heap.size W w5 := by rw [hw5]; exact hb4.alloc hs4 _
  have hb45 : Below w4.heap.size w4 w5 := by rw [hw5]; exact (Below.refl _ _).alloc (Nat.le_refl _) _
  have ho5 : w5.ownsRow w4.heap.size 28 1 (.slice (some ⟨w4.heap.size, 0, none⟩) 1 1) 1 [.slice (some ⟨g4, 0, none⟩) (r0.length + 1) c4] := by
    rw [hw5]; exact World.ownsRow_lit w4 #[.slice (some ⟨g4, 0, none⟩) (r0.length + 1) c4] 1 (Nat.le_refl _) (by simp [maxLen]) rfl
  have hs5 : w5.heap.size = w4.heap.size + 1 := by rw [hw5]; simp
  have hc4 : r0.length + 1 ≤ c4 := by
    rcases ho4.2 with ⟨h, _⟩ | ⟨_, _, _, h, _, _, h1, _⟩
    · cases h
    · cases h; exact h1
  rw [hw5] at hb5 hb45 ho5
  have HB5 := Lib.hid hb5
  have HB45 := Lib.hid hb45
  have HO5 := Lib.hid ho5
  clear hg4 ho4 hb4 hb5 hb45 ho5 hw5 w5 HO3 hs5
  by_cases hgc1 : gc = 1
  case' pos => have HAD := Lib.hid (show ∀ w, Below W.heap.size W w → ∀ ad, some (⟨bg, og, none⟩ : Addr) = some ad → ∀ j u, vsg[j]? = some u → w.cell? (ad.add j) = some u from fun w hb ad had j u hu => by
      have : vsg = [] := List.eq_nil_of_length_eq_zero (by omega)
      rw [this] at hu
      simp at hu)
  case' neg => have HAD := Lib.hid (show ∀ w, Below W.heap.size W w → ∀ ad, some (⟨bg, og + 1, none⟩ : Addr) = some ad → ∀ j u, vsg[j]? = some u → w.cell? (ad.add j) = some u from fun w hb ad had j u hu => by
      cases had
      exact HNG.out w hb j u hu)
  all_goals
    go_wp2_with (at_builtin; refine wpList_append_any _ rfl _ _ 22 rfl w4.heap.size 28 i2 (.slice none 0 0) 1 24 Try.underlying22 hi2 hz2 hs2 hy2 rfl (by decide) w4.heap.size 1 1 [.slice (some ⟨g4, 0, none⟩) (r0.length + 1) c4] rfl HO5.out _ gs.length _ vsg rfl (by omega) (fun h => by cases h) (HAD.out _ HB5.out) HONG.out (by unfold maxLen; omega) (by omega) (by simp) _ rfl ?_)
    intro g6 c6 w6 ho6 hg6 hat6 hlt6
    have hb6 := HB5.out.grown hg6 (by simp; omega) (fun k hk => by simp only [Option.some.injEq] at hk; omega)
    have hs6 := hb6.size
    have hb46 : Below w4.heap.size w4 w6 := HB45.out.grown hg6 (by simp) (fun k hk => by simp only [Option.some.injEq] at hk; omega)
    have hgv : GVals w6 (.slice (some ⟨g4, 0, none⟩) (r0.length + 1) c4 :: vsg) ((r0 ++ [rule]) :: gs) := by
      have := GVals.cons (w := w6) (ro := some ⟨g4, 0, none⟩) (rc := c4) (r := r0 ++ [rule]) (HRW4.out w6 hb46) (by simp [maxLen]; omega) (fun h => by cases h) (by simp; omega) (HVG.out w6 hb6)
      rw [show (r0 ++ [rule]).length = r0.length + 1 by simp] at this
      exact this
    have hG6 := GridAt.of_owns ho6 hgv
    have hml : 1 + gs.length = ((r0 ++ [rule]) :: gs).length := by simp; omega
    obtain ⟨M, hM⟩ : ∃ M, M = (r0 ++ [rule]) :: gs := ⟨_, rfl⟩
    rw [← hM] at hG6 hml
    have HM := Lib.hid hM
    have hM5 : M.length ≤ 5 := by omega
    have HG6 := Lib.hid (show ∀ w, Below w6.heap.size w6 w → GridAt w (some ⟨g6, 0, none⟩) M from fun w hw => hG6.below (Nat.le_refl _) hw)
    have HB6 := Lib.hid hb6
    rw [hml]
    have HA := Lib.hid (fun q => has_any (r0 :: gs) ws (some ⟨bg, og, none⟩) wo q wc w6 (HX.out w6 hb6).1 hl (HX.out w6 hb6).2.2 hwl)
    rw [hgl] at HA
    clear hg6 ho6 hb6 hb46 hgv hG6 hM HRW4 HO5 HB5 HB45 hml
    go_wp2_with fail
    refine (HA.out _).mono ?_
    clear HA
    rintro e w7 ⟨hp7, hb7⟩
    have hbw7 := HB6.out.trans (hb7.mono HB6.out.size)
    have HB7 := Lib.hid hbw7
    have HG7 := Lib.hid (show ∀ w, Below w7.heap.size w7 w → GridAt w (some ⟨g6, 0, none⟩) M from fun w hw => HG6.out w (hb7.trans (hw.mono hb7.size)))
    have HH := Lib.hid (has_any M ws (some ⟨g6, 0, none⟩) wo c6 wc w7 (HG7.out w7 (Below.refl _ _)) (by unfold maxLen; omega) (HX.out w7 hbw7).2.2 hwl)
    clear hb7 hbw7 HG6 HB6
    rcases hp7 with ⟨h, _⟩ | ⟨_, h8, rfl⟩ | ⟨_, h8, ba, rfl, hba⟩
    · exact absurd HOK.out h
    · clear hl
      go_wp2_with fail
      refine HH.out.mono ?_
      clear HH
      rintro e w8 ⟨hp8, hb8⟩
      have hbw8 := HB7.out.trans (hb8.mono HB7.out.size)
      have HB8 := Lib.hid hbw8
      have HG8 := Lib.hid (show ∀ w, Below w8.heap.size w8 w → GridAt w (some ⟨g6, 0, none⟩) M from fun w hw => HG7.out w (hb8.trans (hw.mono hb8.size)))
      have HC := Lib.hid (gcheck_any M (some ⟨g6, 0, none⟩) c6 w8 (HG8.out w8 (Below.refl _ _)) (by unfold maxLen; omega))
      clear hb8 hbw8 HG7 HB7
      rcases hp8 with ⟨hno, rfl⟩ | ⟨hok, h8', rfl⟩ | ⟨hok, h8', bb, rfl, hbb⟩
      · have HNO := Lib.hid hno
        clear hno
        go_wp2_with fail
        refine HC.out.mono ?_
        rintro e w9 ⟨⟨h, _⟩ | ⟨_, rfl⟩, rfl⟩
        · exact absurd h HNO.out
        · go_wp2_with fail
          go_ret
          exact ⟨rfl, HB8.out⟩
      · have hr4 : rule.length ≤ 4 := by have := (hok.2.2 0 (by have := hok.1; omega)).2 r0.length (by rw [HM.out]; simp); rw [HM.out] at this; simpa using this.1
        have HOKM := Lib.hid hok
        clear hok
        go_wp2_with fail
        refine HC.out.mono ?_
        clear HC
        rintro e w9 ⟨⟨_, rfl⟩ | ⟨h, _⟩, rfl⟩
        rotate_left
        · exact absurd HOKM.out h
        go_wp2_with fail
        go_loop [13] (fun iv => ∃ i : Nat, iv = .int .i64 i ∧ i ≤ rule.length ∧ RowKit.Hid (∀ j, j < i → 0 ≤ rule.getD j 0)) (fun iv => rule.length - (intOf iv).toNat)
        case atStart => exact ⟨0, rfl, by omega, Lib.hid (fun j hj => by omega)⟩
        case round =>
          obtain ⟨i, rfl, hi, hall⟩ := hrel
          by_cases hil : i < rule.length
          · obtain ⟨bq, oq, hro, hcq⟩ := (HX.out w8 HB8.out).2.1 i hil
            subst hro
            obtain ⟨x, hx⟩ : ∃ x, x = rule.getD i 0 := ⟨_, rfl⟩
            rw [← hx] at hcq
            have HXX := Lib.hid hx
            clear hx
            by_cases hx0 : x < 0
            · clear hall
              go_wp2_with fail
              go_ret
              exact ⟨rfl, HB8.out⟩
            · go_wp2_with fail
              go_round
              case rel =>
                refine ⟨i + 1, by go_num, by omega, Lib.hid (fun j hj => ?_)⟩
                by_cases e : j = i
                · subst e; rw [← HXX.out]; omega
                · exact hall.out j (by omega)
              case measure => simp [intOf]; omega
          · have hown : Word M rule := by
              rw [HM.out]
              refine Word.own r0 gs (fun x hx => ?_)
              obtain ⟨l, hl, rfl⟩ := List.mem_iff_getElem.1 hx
              have := hall.out l (by omega)
              simpa [hl] using this
            have HOWN := Lib.hid hown
            have HH := Lib.hid (has_any M rule (some ⟨g6, 0, none⟩) ro c6 rc w8 (HG8.out w8 (Below.refl _ _)) (by unfold maxLen; omega) (HX.out w8 HB8.out).2.1 hrl)
            clear hall hown
            go_wp2_with fail
            refine HH.out.mono ?_
            clear HH
            rintro e w10 ⟨hp10, hb10⟩
            have HB10 := Lib.hid (HB8.out.trans (hb10.mono HB8.out.size))
            clear hb10
            rcases hp10 with ⟨h, _⟩ | ⟨_, h, _⟩ | ⟨_, _, bc, rfl, hbc⟩
            · exact absurd HOKM.out h
            · omega
            · obtain rfl := hbc.2 HOWN.out
              clear hbc
              go_wp2_with fail
              go_ret
              exact ⟨rfl, HB10.out⟩
      · omega
    · have hba' := hba
      clear hl hba
      go_wp2_with fail
      refine HH.out.mono ?_
      clear HH
      rintro e w8 ⟨hp8, hb8⟩
      have hbw8 := HB7.out.trans (hb8.mono HB7.out.size)
      have HB8 := Lib.hid hbw8
      have HG8 := Lib.hid (show ∀ w, Below w8.heap.size w8 w → GridAt w (some ⟨g6, 0, none⟩) M from fun w hw => HG7.out w (hb8.trans (hw.mono hb8.size)))
      have HC := Lib.hid (gcheck_any M (some ⟨g6, 0, none⟩) c6 w8 (HG8.out w8 (Below.refl _ _)) (by unfold maxLen; omega))
      clear hb8 hbw8 HG7 HB7
      rcases hp8 with ⟨hno, rfl⟩ | ⟨hok, h8', rfl⟩ | ⟨hok, h8', bb, rfl, hbb⟩
      · have HNO := Lib.hid hno
        clear hno
        go_wp2_with fail
        refine HC.out.mono ?_
        rintro e w9 ⟨⟨h, _⟩ | ⟨_, rfl⟩, rfl⟩
        · exact absurd h HNO.out
        · go_wp2_with fail
          go_ret
          exact ⟨rfl, HB8.out⟩
      · omega
      · have himp : ba = true → bb = true := fun h => hbb.2 (by rw [HM.out]; exact Word.more r0 gs rfl (hba'.1 h))
        clear hbb hba'
        obtain ⟨q, hq⟩ : ∃ q : Unit, ba = false ∨ bb = true := ⟨(), by cases ba <;> simp_all⟩
        clear himp
        have hr4 : rule.length ≤ 4 := by have := (hok.2.2 0 (by have := hok.1; omega)).2 r0.length (by rw [HM.out]; simp); rw [HM.out] at this; simpa using this.1
        have HOKM := Lib.hid hok
        clear hok
        go_wp2_with fail
        refine HC.out.mono ?_
        clear HC
        rintro e w9 ⟨⟨_, rfl⟩ | ⟨h, _⟩, rfl⟩
        rotate_left
        · exact absurd HOKM.out h
        go_wp2_with fail
        go_loop [13] (fun iv => ∃ i : Nat, iv = .int .i64 i ∧ i ≤ rule.length ∧ RowKit.Hid (∀ j, j < i → 0 ≤ rule.getD j 0)) (fun iv => rule.length - (intOf iv).toNat)
        case atStart => exact ⟨0, rfl, by omega, Lib.hid (fun j hj => by omega)⟩
        case round =>
          obtain ⟨i, rfl, hi, hall⟩ := hrel
          by_cases hil : i < rule.length
          · obtain ⟨bq, oq, hro, hcq⟩ := (HX.out w8 HB8.out).2.1 i hil
            subst hro
            obtain ⟨x, hx⟩ : ∃ x, x = rule.getD i 0 := ⟨_, rfl⟩
            rw [← hx] at hcq
            have HXX := Lib.hid hx
            clear hx
            by_cases hx0 : x < 0
            · clear hall
              rcases hq with rfl | rfl
              all_goals
                go_wp2_with fail
                all_goals go_ret
                all_goals exact ⟨by simp, HB8.out⟩
            · go_wp2_with fail
              go_round
              case rel =>
                refine ⟨i + 1, by go_num, by omega, Lib.hid (fun j hj => ?_)⟩
                by_cases e : j = i
                · subst e; rw [← HXX.out]; omega
                · exact hall.out j (by omega)
              case measure => simp [intOf]; omega
          · have hown : Word M rule := by
              rw [HM.out]
              refine Word.own r0 gs (fun x hx => ?_)
              obtain ⟨l, hl, rfl⟩ := List.mem_iff_getElem.1 hx
              have := hall.out l (by omega)
              simpa [hl] using this
            have HOWN := Lib.hid hown
            have HH := Lib.hid (has_any M rule (some ⟨g6, 0, none⟩) ro c6 rc w8 (HG8.out w8 (Below.refl _ _)) (by unfold maxLen; omega) (HX.out w8 HB8.out).2.1 hrl)
            clear hall hown
            go_wp2_with fail
            refine HH.out.mono ?_
            clear HH
            rintro e w10 ⟨hp10, hb10⟩
            have HB10 := Lib.hid (HB8.out.trans (hb10.mono HB8.out.size))
            clear hb10
            rcases hp10 with ⟨h, _⟩ | ⟨_, h, _⟩ | ⟨_, _, bc, rfl, hbc⟩
            · exact absurd HOKM.out h
            · omega
            · obtain rfl := hbc.2 HOWN.out
              clear hbc
              rcases hq with rfl | rfl
              all_goals
                go_wp2_with fail
                all_goals go_ret
                all_goals exact ⟨by simp, HB10.out⟩
end Go.Proofs.Ytfdjnofkoegbdaa
