/- assayerref2.Answered: int. assayerref2.Answered: many. assayerref2.Answered: limit. -/
import Derived.Test.YtalbllijahiiiaaGreatDoorDkBJ
import Derived.Deep.RegionHeld
section
namespace Go.Proofs.YtalbllijahiiiaaGreatDoor
open Go.RowKit Go.Mine Go.Mine.Desk

set_option maxRecDepth 100000 in
set_option maxHeartbeats 4000000 in
theorem ans_int (g : G) (n : Int) (hg : g.right) (hn : near n) (gK xa gb : Int) (gao : Option Addr) (gn gc : Nat) (s : Bytes) (hs : s.length ≤ 1100000) (x0 x y : Bytes) (hw : cuts 32 s = [x0, x, y]) (hx0 : x0 = kInt) (hne : s ≠ kCount) (hall : ∀ p ∈ [x, y], wordV p ≠ none) (w : World) (hv : GenAt w (.agg #[.int .i64 gK, .int .i64 xa, .int .i64 gb, .slice gao gn gc]) g) :
    Calls Tryz.prog 8 #[.agg #[.int .i64 gK, .int .i64 xa, .int .i64 gb, .slice gao gn gc, .int .i64 n], str s] w (AnsPost (lineR (g, n) s) w) := by
  have hsc : (s == [99, 111, 117, 110, 116]) = false := beq_eq_false_iff_ne.2 hne
  obtain ⟨w0, hw0⟩ : ∃ w0, w0 = (w.alloc (.cells #[.int .i64 gK, .int .i64 xa, .int .i64 gb, .slice gao gn gc, .int .i64 n] 30)).alloc (.cells #[.int .i64 0, .int .i64 0, .int .i64 0, .slice none 0 0, .int .i64 0] 30) := ⟨_, rfl⟩
  obtain ⟨B, hB⟩ : ∃ B, w.heap.size = B := ⟨_, rfl⟩
  have HA0 := Lib.hid (AN.start hB hv hw0)
  have HC := Lib.hid (show Calls Tryz.prog 7 #[str s, .int .u8 32] w0 (fun e w' => (∃ v, e = .returned v ∧ w'.ownsRow w0.heap.size 9 1 v (cuts 32 s).length ((cuts 32 s).map str)) ∧ Below w0.heap.size w0 w') from by
    have h := Cut_any s 32 hs w0
    rw [show (((32 : UInt8).toNat : Nat) : Int) = 32 from rfl] at h
    exact h)
  have HW := Lib.hid hw0
  have HGN := Lib.hid (And.intro hg hn)
  clear hw0 hv hg hn
  have bInt : (x0 == [105, 110, 116]) = true := by rw [hx0]; rfl
  have HR := Lib.hid (show lineR (g, n) s = lineOut (g, n) (intR (g, n) x y) by unfold lineR; rw [hw, hx0]; rfl)
  have hN : [x, y].length + 1 = 3 := rfl
  have HALL := Lib.hid hall
  clear hall hx0
  rw [hw] at HC
  have HN := Lib.hid hN
  rw [List.length_cons, hN] at HC
  clear hne hw hs
  go_enter Tryz.func8, Tryz.ntmps8
  go_upto_region 1 with fail
  rw [← HW.out]
  go_wp2_with fail
  refine HC.out.mono ?_
  clear HC
  rintro e w1 ⟨⟨v, rfl, hown⟩, hb1⟩
  obtain ⟨ro, rc, rfl⟩ := owns_shape hown
  have HA1 := Lib.hid (HA0.out.on hb1)
  obtain ⟨q, rfl⟩ : ∃ q, ro = some ⟨q, 0, none⟩ := by
    rcases hown.2 with ⟨_, h0⟩ | ⟨q, cap, cur, h1, _⟩
    · omega
    · simp only [Value.slice.injEq] at h1
      exact ⟨q, h1.1⟩
  have HCW := Lib.hid (show ∀ W, Below w1.heap.size w1 W → ∀ j, j < 3 → W.cell? ⟨q, j, none⟩ = some (str ((x0 :: [x, y]).getD j [])) from fun W hb j hj => by
    have hj' : j < (x0 :: [x, y]).length := by rw [List.length_cons]; omega
    rw [hb.cell (hown.lt q rfl).2, hown.cellAt j (by omega)]
    simp only [List.getElem?_map, List.getD, List.getElem?_eq_getElem hj', Option.map_some, Option.getD_some])
  have h0 : w1.cell? ⟨q, 0, none⟩ = some (str x0) := HCW.out w1 (Below.refl _ _) 0 (by omega)
  obtain ⟨Q, hQ⟩ : ∃ Q, w1.heap.size = Q := ⟨_, rfl⟩
  have HL0 := Lib.hid (show LN w1 w1 Q [x, y] 1 [] (.slice none 0 0) from ⟨Below.refl _ _, World.ownsRow_nil _ _ _ _, rfl, fun j hj => by simp at hj, by omega⟩)
  have hQB : B + 1 + 1 ≤ Q := by rw [← hQ]; exact HA1.out.res.lt
  have HQ := Lib.hid hQ
  obtain ⟨i1, hj1, hy0, hy1, hy2⟩ := info_parts infoI3d
  clear hown hb1 hQ hN
  go_wp2_with fail
  go_loopw [12, 13, 14, 15] (fun nv iv _ _ wr => ∃ (i : Nat) (zs : List Int), iv = .int .i64 (i : Int) ∧ 1 ≤ i ∧ i ≤ 3 ∧ RowKit.Hid (LN w1 wr Q [x, y] i zs nv)) (fun _ iv _ _ _ => 3 - (intOf iv).toNat)
  case atStart => exact ⟨1, [], rfl, by omega, by omega, HL0⟩
  case round =>
    obtain ⟨i, zs, rfl, hi1', hiN, HJ⟩ := hrel
    have HA2 := Lib.hid (HA1.out.on HJ.out.below)
    rcases Nat.lt_or_ge i 3 with hlt | hge
    · have hcell := HCW.out wr HJ.out.below i hlt
      obtain ⟨p, hp⟩ : ∃ p, p = [x, y].getD (i - 1) [] := ⟨_, rfl⟩
      have hpe : (x0 :: [x, y]).getD i [] = p := by
        obtain ⟨j, rfl⟩ : ∃ j, i = j + 1 := ⟨i - 1, by omega⟩
        rw [hp]; rfl
      have hmem : p ∈ [x, y] := by
        have hl : i - 1 < [x, y].length := by have := HN.out; omega
        rw [hp, List.getD, List.getElem?_eq_getElem hl]
        exact List.getElem_mem hl
      rw [hpe] at hcell
      have HPP := Lib.hid (And.intro hp hmem)
      have hj0 : (0 : Int) ≤ (i : Int) := by omega
      have hj1' : (i : Int) < (3 : Int) := by omega
      have hw1 : IntKind.i64.wrap ((i : Int) + 1) = ((i + 1 : Nat) : Int) := by rw [IntWalk.i64_in _ (by omega)]; omega
      have HNW := Lib.hid (num_walk p wr)
      clear hp hpe hmem
      go_wp2_with fail
      refine HNW.out.mono ?_
      clear HNW hcell
      rintro e w3 ⟨⟨z, bb, rfl, h64, hnum⟩, hb3⟩
      have HA3 := Lib.hid (HA2.out.on hb3)
      have HNM := Lib.hid hnum
      have HLN3 := Lib.hid (show LN w1 w3 Q [x, y] i zs _ from ⟨HJ.out.below.trans (hb3.mono HJ.out.below.size), owns_below HJ.out.row hb3, HJ.out.len, HJ.out.all, Nat.le_trans HJ.out.size hb3.size⟩)
      have hzb : zs.length + 1 ≤ 3 := by have := HJ.out.len; omega
      have hsz3 := HLN3.out.size
      unfold i64ok at h64
      clear hnum hb3
      cases bb with
      | false =>
        exact absurd (word_none1 (HNM.out.2 rfl)) (HALL.out p HPP.out.2)
      | true =>
        by_cases z1 : z < -1073741824
        · have d1 : decide (z < -1073741824) = true := decide_eq_true z1
          exact absurd (word_none2 (HNM.out.1 rfl) (.inl z1)) (HALL.out p HPP.out.2)
        · have d1 : decide (z < -1073741824) = false := decide_eq_false z1
          by_cases z2 : 1073741824 < z
          · have d2 : decide (1073741824 < z) = true := decide_eq_true z2
            exact absurd (word_none2 (HNM.out.1 rfl) (.inr z2)) (HALL.out p HPP.out.2)
          · have d2 : decide (1073741824 < z) = false := decide_eq_false z2
            have HWV := Lib.hid (word_some (HNM.out.1 rfl) z1 z2)
            go_wp2_with (at_builtin; refine wpList_push2 _ rfl _ _ 48 rfl Q 3 i1 (.int .i64 0) 1 8 Tryz.underlying48 hj1 hy0 hy1 hy2 rfl (by decide) _ _ _ rfl (HLN3.out.row.alloc _) ⟨w3.heap.size, 0, none⟩ 1 [.int .i64 z] rfl rfl (World.news_of_block (cs := #[.int .i64 z]) (t := 3) (fr := (0, 0)) (heap_alloc_at _ _ rfl)) (one1 _ _) (by unfold maxLen; omega) (by omega) (by simp; omega) ?_)
            intro gq cap w7 hown hgr hat7
            have HJ7 := Lib.hid (show LN w1 w7 Q [x, y] (i + 1) (zs ++ [z]) (.slice (some ⟨gq, 0, none⟩) (zs.length + 1) cap) from by
              refine ⟨(HLN3.out.below.alloc HLN3.out.below.size (.cells #[.int .i64 z] 3)).grown hgr (by have := HLN3.out.below.size; simp; omega) (fun k hk => by have := (HLN3.out.row.lt k hk).1; have := HQ.out; omega), by rw [List.length_append, List.map_append]; exact hown, by rw [List.length_append]; have := HJ.out.len; simp; omega, fun j hj => ?_, by have := hgr.size; simp at this; omega⟩
              rw [List.length_append] at hj
              rcases Nat.lt_or_ge j zs.length with h | h
              · rw [HJ.out.all j h]
                simp [List.getD, List.getElem?_append_left h]
              · have hjz : j = zs.length := by simp at hj; omega
                subst hjz
                have hi : i - 1 = zs.length := by have := HJ.out.len; omega
                rw [← hi, ← HPP.out.1, HWV.out, hi]
                simp [List.getD])
            clear hown hgr hat7
            go_wp2_with fail
            go_roundw
            case rel => exact ⟨i + 1, zs ++ [z], by go_num, by omega, by omega, HJ7⟩
            case measure => simp [intOf]; omega
    · have hiN' : i = 3 := by omega
      subst hiN'
      have h0' : wr.cell? ⟨q, 0, none⟩ = some (str x0) := HCW.out wr HJ.out.below 0 (by omega)
      obtain ⟨za, zb, rfl⟩ : ∃ za zb, zs = [za, zb] := by
        have h := HJ.out.len
        match zs, h with
        | [za, zb], _ => exact ⟨za, zb, rfl⟩
      obtain ⟨no, nc, rfl⟩ := owns_shape HJ.out.row
      obtain ⟨nb, rfl⟩ : ∃ nb, no = some ⟨nb, 0, none⟩ := by
        rcases HJ.out.row.2 with ⟨_, h0⟩ | ⟨g1, cap, cur, h1, _⟩
        · simp at h0
        · simp only [Value.slice.injEq] at h1
          exact ⟨g1, h1.1⟩
      have hnb := (HJ.out.row.lt nb rfl).1
      have hnb1 : nb ≠ B + 1 := by omega
      have hnb2 : B + 1 ≠ nb := by omega
      have n0 : wr.cell? ⟨nb, 0, none⟩ = some (.int .i64 za) := HJ.out.row.cellAt 0 (by simp)
      have HV0 := Lib.hid (show wordV x = some za from HJ.out.all 0 (by simp))
      have n1 : wr.cell? ⟨nb, 1, none⟩ = some (.int .i64 zb) := HJ.out.row.cellAt 1 (by simp)
      have HV1 := Lib.hid (show wordV y = some zb from HJ.out.all 1 (by simp))
      have HP := Lib.hid (show lineR (g, n) s = lineOut (g, n) (setR (g, n) (.int za zb)) by rw [HR.out]; unfold intR; rw [HV0.out, HV1.out])
      obtain ⟨pp, hpp⟩ : ∃ pp, lineOut (g, n) (setR (g, n) (.int za zb)) = pp := ⟨_, rfl⟩
      have HC3 := Lib.hid (setTo_any g n (.int za zb) (intG za zb) ⟨wordV_near HV0.out, wordV_near HV1.out⟩ HGN.out.1 HGN.out.2 gK xa gb gao gn gc wr.drew (show GenAt wr _ g from HA2.out.gen) rfl)
      rw [hpp] at HC3 HP
      clear hpp
      have c0 : wr.cell? ⟨B, 0, none⟩ = some (.int .i64 gK) := HA2.out.dsk.cell 0
      have c1 : wr.cell? ⟨B, 1, none⟩ = some (.int .i64 xa) := HA2.out.dsk.cell 1
      have c2 : wr.cell? ⟨B, 2, none⟩ = some (.int .i64 gb) := HA2.out.dsk.cell 2
      have c3 : wr.cell? ⟨B, 3, none⟩ = some (.slice gao gn gc) := HA2.out.dsk.cell 3
      have c4 : wr.cell? ⟨B, 4, none⟩ = some (.int .i64 n) := HA2.out.dsk.cell 4
      have HSK := Lib.hid (show ∀ w' : World, Below wr.heap.size wr w' → (w'.cell? ⟨B, 0, none⟩ = some (.int .i64 gK) ∧ w'.cell? ⟨B, 1, none⟩ = some (.int .i64 xa) ∧ w'.cell? ⟨B, 2, none⟩ = some (.int .i64 gb) ∧ w'.cell? ⟨B, 3, none⟩ = some (.slice gao gn gc) ∧ w'.cell? ⟨B, 4, none⟩ = some (.int .i64 n) ∧ w'.cell? ⟨nb, 0, none⟩ = some (.int .i64 za) ∧ w'.cell? ⟨nb, 1, none⟩ = some (.int .i64 zb)) from fun w' hb => ⟨(HA2.out.dsk.below hb).cell 0, (HA2.out.dsk.below hb).cell 1, (HA2.out.dsk.below hb).cell 2, (HA2.out.dsk.below hb).cell 3, (HA2.out.dsk.below hb).cell 4, (hb.cell (World.block_lt_of_cell? wr _ n0)).trans n0, (hb.cell (World.block_lt_of_cell? wr _ n1)).trans n1⟩)
      go_wp2_with fail
      refine wp_region_held_drew (S := fun w' => w'.cell? ⟨B, 0, none⟩ = some (.int .i64 gK) ∧ w'.cell? ⟨B, 1, none⟩ = some (.int .i64 xa) ∧ w'.cell? ⟨B, 2, none⟩ = some (.int .i64 gb) ∧ w'.cell? ⟨B, 3, none⟩ = some (.slice gao gn gc) ∧ w'.cell? ⟨B, 4, none⟩ = some (.int .i64 n) ∧ w'.cell? ⟨nb, 0, none⟩ = some (.int .i64 za) ∧ w'.cell? ⟨nb, 1, none⟩ = some (.int .i64 zb)) (by kernel_rfl) ?hSR1_0 (fun hHeld => ?_)
      case hSR1_0 =>
        exact HSK.out _ ((Below.refl _ _).drew)
      refine wpAnyH_take (i := 0) (v := ?vvR1_0) rfl (by kernel_rfl) (by kernel_rfl) (by kernel_rfl) (fun _ _ _ h => h) (Or.inl ⟨by rfl, ?hyR1_0⟩) (by assumption) ?restR1_0
      case hyR1_0 => ((intro w hSw; (try dsimp only at hSw); go_simp) <;> with_reducible rfl)
      try simp only [sA, sC, Act.put, sD, sE, sF]
      refine wpAnyH_take (i := 1) (v := ?vvR1_1) rfl (by kernel_rfl) (by kernel_rfl) (by kernel_rfl) (fun _ _ _ h => h) (Or.inl ⟨by rfl, ?hyR1_1⟩) (by assumption) ?restR1_1
      case hyR1_1 => ((intro w hSw; (try dsimp only at hSw); go_simp) <;> with_reducible rfl)
      try simp only [sA, sB, sC, Act.put, sD, sE, sF]
      refine wpAnyH_take (i := 2) (v := ?vvR1_2) rfl (by kernel_rfl) (by kernel_rfl) (by kernel_rfl) (fun _ _ _ h => h) (Or.inl ⟨by rfl, ?hyR1_2⟩) (by assumption) ?restR1_2
      case hyR1_2 => ((intro w hSw; (try dsimp only at hSw); go_simp) <;> with_reducible rfl)
      try simp only [sA, sB, sC, Act.put, sD, sE, sF]
      refine wpAnyH_take (i := 3) (v := ?vvR1_3) rfl (by kernel_rfl) (by kernel_rfl) (by kernel_rfl) (fun _ _ _ h => h) (Or.inl ⟨by rfl, ?hyR1_3⟩) (by assumption) ?restR1_3
      case hyR1_3 => ((intro w hSw; (try dsimp only at hSw); go_simp) <;> with_reducible rfl)
      try simp only [sA, sB, sC, Act.put, sD, sE, sF]
      refine wpAnyH_take (i := 4) (v := ?vvR1_4) rfl (by kernel_rfl) (by kernel_rfl) (by kernel_rfl) (fun _ _ _ h => h) (Or.inl ⟨by rfl, ?hyR1_4⟩) (by assumption) ?restR1_4
      case hyR1_4 => ((intro w hSw; (try dsimp only at hSw); go_simp) <;> with_reducible rfl)
      try simp only [sA, sB, sC, Act.put, sD, sE, sF]
      refine wpAnyH_take (i := 5) (v := ?vvR1_5) rfl (by kernel_rfl) (by kernel_rfl) (by kernel_rfl) (fun _ _ _ h => h) (Or.inl ⟨by rfl, ?hyR1_5⟩) (by assumption) ?restR1_5
      case hyR1_5 => ((intro w hSw; (try dsimp only at hSw); go_simp) <;> with_reducible rfl)
      try simp only [sA, sB, sC, Act.put, sD, sE, sF]
      refine wpAnyH_take (i := 6) (v := ?vvR1_6) rfl (by kernel_rfl) (by kernel_rfl) (by kernel_rfl) (fun _ _ _ h => h) (Or.inl ⟨by rfl, ?hyR1_6⟩) (by assumption) ?restR1_6
      case hyR1_6 => ((intro w hSw; (try dsimp only at hSw); go_simp) <;> with_reducible rfl)
      try simp only [sA, sB, sC, Act.put, sD, sE, sF]
      refine wpAnyH_take (i := 7) (v := ?vvR1_7) rfl (by kernel_rfl) (by kernel_rfl) (by kernel_rfl) (fun _ _ _ h => h) (Or.inl ⟨by rfl, ?hyR1_7⟩) (by assumption) ?restR1_7
      case hyR1_7 => ((intro w hSw; (try dsimp only at hSw); go_simp) <;> with_reducible rfl)
      try simp only [sA, sB, sC, Act.put, sD, sE, sF]
      refine wpAnyH_ready (rs := [8]) (by kernel_rfl) (by simp) ?_
      refine AllReadyH.cons rfl (fun K hK => ?_) AllReadyH.nil
      go_simp
      go_at_call 21
      refine (HC3.out).mono ?_
      rintro e w5 ⟨hb5, v5, rfl, aK, a1, a2, a3, a4, a5, rfl, hgen5, hr5, hn5⟩
      have hb5' : Below wr.heap.size wr w5 := ((Below.refl _ wr).drew).trans hb5
      have HA5 := Lib.hid (HA2.out.on hb5')
      have HB5 := Lib.hid hb5'
      have HG5 := Lib.hid (And.intro hgen5 (And.intro hr5 hn5))
      clear hb5 hb5' hgen5 hr5 hn5
      have r0 : w5.cell? ⟨B + 1, 0, none⟩ = some (.int .i64 0) := HA5.out.res.cell 0
      have r1 : w5.cell? ⟨B + 1, 1, none⟩ = some (.int .i64 0) := HA5.out.res.cell 1
      have r2 : w5.cell? ⟨B + 1, 2, none⟩ = some (.int .i64 0) := HA5.out.res.cell 2
      have r3 : w5.cell? ⟨B + 1, 3, none⟩ = some (.slice none 0 0) := HA5.out.res.cell 3
      have r4 : w5.cell? ⟨B + 1, 4, none⟩ = some (.int .i64 0) := HA5.out.res.cell 4
      have rf0 : w5.frozen? ⟨B + 1, 0, none⟩ = false := HA5.out.res.froz 0
      have rf1 : w5.frozen? ⟨B + 1, 1, none⟩ = false := HA5.out.res.froz 1
      have rf2 : w5.frozen? ⟨B + 1, 2, none⟩ = false := HA5.out.res.froz 2
      have rf3 : w5.frozen? ⟨B + 1, 3, none⟩ = false := HA5.out.res.froz 3
      have rf4 : w5.frozen? ⟨B + 1, 4, none⟩ = false := HA5.out.res.froz 4
      refine hK.out _ _ ?hSR1_8 (fun hHeld => ?_)
      case hSR1_8 => exact HSK.out _ HB5.out
      clear hK K
      try simp only [sA, sB, sC, Act.put, sD, sE, sF]
      refine wpAnyH_take (i := 9) (v := ?vvR1_9) rfl (by kernel_rfl) (by kernel_rfl) (by kernel_rfl) (fun _ _ _ h => h) (Or.inl ⟨by rfl, ?hyR1_9⟩) (by assumption) ?restR1_9
      case hyR1_9 => ((intro w hSw; (try dsimp only at hSw); go_simp) <;> with_reducible rfl)
      try simp only [sA, sB, sC, Act.put, sD, sE, sF]
      refine wpAnyH_take (i := 10) (v := ?vvR1_10) rfl (by kernel_rfl) (by kernel_rfl) (by kernel_rfl) (fun _ _ _ h => h) (Or.inl ⟨by rfl, ?hyR1_10⟩) (by assumption) ?restR1_10
      case hyR1_10 => ((intro w hSw; (try dsimp only at hSw); go_simp) <;> with_reducible rfl)
      try simp only [sA, sB, sC, Act.put, sD, sE, sF]
      refine wpAnyH_ready (rs := [11]) (by kernel_rfl) (by simp) ?_
      refine AllReadyH.cons rfl (fun K hK => ?_) AllReadyH.nil
      go_simp
      refine hK.out _ _ ?hSR1_11 (fun hHeld => ?_)
      case hSR1_11 => go_keep
      clear hK K
      try simp only [sA, sB, sC, Act.put, sD, sE, sF]
      refine wpAnyH_take (i := 12) (v := ?vvR1_12) rfl (by kernel_rfl) (by kernel_rfl) (by kernel_rfl) (fun _ _ _ h => h) (Or.inl ⟨by rfl, ?hyR1_12⟩) (by assumption) ?restR1_12
      case hyR1_12 => ((intro w hSw; (try dsimp only at hSw); go_simp) <;> with_reducible rfl)
      try simp only [sA, sB, sC, Act.put, sD, sE, sF]
      refine wpAnyH_done (by kernel_rfl) ?_ _
      go_wp2_with fail
      refine bodyPost_ret (v := .tuple #[.agg #[.int .i64 aK, .int .i64 a1, .int .i64 a2, .slice a3 a4 a5, .int .i64 pp.2.2], str pp.1]) (by simp [results, Tryz.results8, go_sem, r0, r1, r2, r3, r4]) rfl ?_
      rw [HP.out]
      first | exact told2 HA5.out.below hB HA5.out.res HG5.out.1 HG5.out.2.1 HG5.out.2.2 rfl | exact (told2 HA5.out.below hB HA5.out.res HG5.out.1 HG5.out.2.1 HG5.out.2.2 rfl).drew
end Go.Proofs.YtalbllijahiiiaaGreatDoor
end

section
namespace Go.Proofs.YtalbllijahiiiaaGreatDoor
open Go.RowKit Go.Mine Go.Mine.Desk

set_option maxRecDepth 100000 in
set_option maxHeartbeats 4000000 in
theorem ans_many (g : G) (n : Int) (hg : g.right) (hn : near n) (gK xa gb : Int) (gao : Option Addr) (gn gc : Nat) (s : Bytes) (hs : s.length ≤ 1100000) (x0 x y u : Bytes) (hw : cuts 32 s = [x0, x, y, u]) (hx0 : x0 = kMany) (hne : s ≠ kCount) (hall : ∀ p ∈ [x, y, u], wordV p ≠ none) (w : World) (hv : GenAt w (.agg #[.int .i64 gK, .int .i64 xa, .int .i64 gb, .slice gao gn gc]) g) :
    Calls Tryz.prog 8 #[.agg #[.int .i64 gK, .int .i64 xa, .int .i64 gb, .slice gao gn gc, .int .i64 n], str s] w (AnsPost (lineR (g, n) s) w) := by
  have hsc : (s == [99, 111, 117, 110, 116]) = false := beq_eq_false_iff_ne.2 hne
  obtain ⟨w0, hw0⟩ : ∃ w0, w0 = (w.alloc (.cells #[.int .i64 gK, .int .i64 xa, .int .i64 gb, .slice gao gn gc, .int .i64 n] 30)).alloc (.cells #[.int .i64 0, .int .i64 0, .int .i64 0, .slice none 0 0, .int .i64 0] 30) := ⟨_, rfl⟩
  obtain ⟨B, hB⟩ : ∃ B, w.heap.size = B := ⟨_, rfl⟩
  have HA0 := Lib.hid (AN.start hB hv hw0)
  have HC := Lib.hid (show Calls Tryz.prog 7 #[str s, .int .u8 32] w0 (fun e w' => (∃ v, e = .returned v ∧ w'.ownsRow w0.heap.size 9 1 v (cuts 32 s).length ((cuts 32 s).map str)) ∧ Below w0.heap.size w0 w') from by
    have h := Cut_any s 32 hs w0
    rw [show (((32 : UInt8).toNat : Nat) : Int) = 32 from rfl] at h
    exact h)
  have HW := Lib.hid hw0
  have HGN := Lib.hid (And.intro hg hn)
  clear hw0 hv hg hn
  have bInt : (x0 == [105, 110, 116]) = false := by rw [hx0]; rfl
  have bMany : (x0 == [109, 97, 110, 121]) = true := by rw [hx0]; rfl
  have HR := Lib.hid (show lineR (g, n) s = lineOut (g, n) (manyR (g, n) x y u) by unfold lineR; rw [hw, hx0]; rfl)
  have hN : [x, y, u].length + 1 = 4 := rfl
  have HALL := Lib.hid hall
  clear hall hx0
  rw [hw] at HC
  have HN := Lib.hid hN
  rw [List.length_cons, hN] at HC
  clear hne hw hs
  go_enter Tryz.func8, Tryz.ntmps8
  go_upto_region 1 with fail
  rw [← HW.out]
  go_wp2_with fail
  refine HC.out.mono ?_
  clear HC
  rintro e w1 ⟨⟨v, rfl, hown⟩, hb1⟩
  obtain ⟨ro, rc, rfl⟩ := owns_shape hown
  have HA1 := Lib.hid (HA0.out.on hb1)
  obtain ⟨q, rfl⟩ : ∃ q, ro = some ⟨q, 0, none⟩ := by
    rcases hown.2 with ⟨_, h0⟩ | ⟨q, cap, cur, h1, _⟩
    · omega
    · simp only [Value.slice.injEq] at h1
      exact ⟨q, h1.1⟩
  have HCW := Lib.hid (show ∀ W, Below w1.heap.size w1 W → ∀ j, j < 4 → W.cell? ⟨q, j, none⟩ = some (str ((x0 :: [x, y, u]).getD j [])) from fun W hb j hj => by
    have hj' : j < (x0 :: [x, y, u]).length := by rw [List.length_cons]; omega
    rw [hb.cell (hown.lt q rfl).2, hown.cellAt j (by omega)]
    simp only [List.getElem?_map, List.getD, List.getElem?_eq_getElem hj', Option.map_some, Option.getD_some])
  have h0 : w1.cell? ⟨q, 0, none⟩ = some (str x0) := HCW.out w1 (Below.refl _ _) 0 (by omega)
  obtain ⟨Q, hQ⟩ : ∃ Q, w1.heap.size = Q := ⟨_, rfl⟩
  have HL0 := Lib.hid (show LN w1 w1 Q [x, y, u] 1 [] (.slice none 0 0) from ⟨Below.refl _ _, World.ownsRow_nil _ _ _ _, rfl, fun j hj => by simp at hj, by omega⟩)
  have hQB : B + 1 + 1 ≤ Q := by rw [← hQ]; exact HA1.out.res.lt
  have HQ := Lib.hid hQ
  obtain ⟨i1, hj1, hy0, hy1, hy2⟩ := info_parts infoI3d
  clear hown hb1 hQ hN
  go_wp2_with fail
  go_loopw [12, 13, 14, 15] (fun nv iv _ _ wr => ∃ (i : Nat) (zs : List Int), iv = .int .i64 (i : Int) ∧ 1 ≤ i ∧ i ≤ 4 ∧ RowKit.Hid (LN w1 wr Q [x, y, u] i zs nv)) (fun _ iv _ _ _ => 4 - (intOf iv).toNat)
  case atStart => exact ⟨1, [], rfl, by omega, by omega, HL0⟩
  case round =>
    obtain ⟨i, zs, rfl, hi1', hiN, HJ⟩ := hrel
    have HA2 := Lib.hid (HA1.out.on HJ.out.below)
    rcases Nat.lt_or_ge i 4 with hlt | hge
    · have hcell := HCW.out wr HJ.out.below i hlt
      obtain ⟨p, hp⟩ : ∃ p, p = [x, y, u].getD (i - 1) [] := ⟨_, rfl⟩
      have hpe : (x0 :: [x, y, u]).getD i [] = p := by
        obtain ⟨j, rfl⟩ : ∃ j, i = j + 1 := ⟨i - 1, by omega⟩
        rw [hp]; rfl
      have hmem : p ∈ [x, y, u] := by
        have hl : i - 1 < [x, y, u].length := by have := HN.out; omega
        rw [hp, List.getD, List.getElem?_eq_getElem hl]
        exact List.getElem_mem hl
      rw [hpe] at hcell
      have HPP := Lib.hid (And.intro hp hmem)
      have hj0 : (0 : Int) ≤ (i : Int) := by omega
      have hj1' : (i : Int) < (4 : Int) := by omega
      have hw1 : IntKind.i64.wrap ((i : Int) + 1) = ((i + 1 : Nat) : Int) := by rw [IntWalk.i64_in _ (by omega)]; omega
      have HNW := Lib.hid (num_walk p wr)
      clear hp hpe hmem
      go_wp2_with fail
      refine HNW.out.mono ?_
      clear HNW hcell
      rintro e w3 ⟨⟨z, bb, rfl, h64, hnum⟩, hb3⟩
      have HA3 := Lib.hid (HA2.out.on hb3)
      have HNM := Lib.hid hnum
      have HLN3 := Lib.hid (show LN w1 w3 Q [x, y, u] i zs _ from ⟨HJ.out.below.trans (hb3.mono HJ.out.below.size), owns_below HJ.out.row hb3, HJ.out.len, HJ.out.all, Nat.le_trans HJ.out.size hb3.size⟩)
      have hzb : zs.length + 1 ≤ 4 := by have := HJ.out.len; omega
      have hsz3 := HLN3.out.size
      unfold i64ok at h64
      clear hnum hb3
      cases bb with
      | false =>
        exact absurd (word_none1 (HNM.out.2 rfl)) (HALL.out p HPP.out.2)
      | true =>
        by_cases z1 : z < -1073741824
        · have d1 : decide (z < -1073741824) = true := decide_eq_true z1
          exact absurd (word_none2 (HNM.out.1 rfl) (.inl z1)) (HALL.out p HPP.out.2)
        · have d1 : decide (z < -1073741824) = false := decide_eq_false z1
          by_cases z2 : 1073741824 < z
          · have d2 : decide (1073741824 < z) = true := decide_eq_true z2
            exact absurd (word_none2 (HNM.out.1 rfl) (.inr z2)) (HALL.out p HPP.out.2)
          · have d2 : decide (1073741824 < z) = false := decide_eq_false z2
            have HWV := Lib.hid (word_some (HNM.out.1 rfl) z1 z2)
            go_wp2_with (at_builtin; refine wpList_push2 _ rfl _ _ 48 rfl Q 3 i1 (.int .i64 0) 1 8 Tryz.underlying48 hj1 hy0 hy1 hy2 rfl (by decide) _ _ _ rfl (HLN3.out.row.alloc _) ⟨w3.heap.size, 0, none⟩ 1 [.int .i64 z] rfl rfl (World.news_of_block (cs := #[.int .i64 z]) (t := 3) (fr := (0, 0)) (heap_alloc_at _ _ rfl)) (one1 _ _) (by unfold maxLen; omega) (by omega) (by simp; omega) ?_)
            intro gq cap w7 hown hgr hat7
            have HJ7 := Lib.hid (show LN w1 w7 Q [x, y, u] (i + 1) (zs ++ [z]) (.slice (some ⟨gq, 0, none⟩) (zs.length + 1) cap) from by
              refine ⟨(HLN3.out.below.alloc HLN3.out.below.size (.cells #[.int .i64 z] 3)).grown hgr (by have := HLN3.out.below.size; simp; omega) (fun k hk => by have := (HLN3.out.row.lt k hk).1; have := HQ.out; omega), by rw [List.length_append, List.map_append]; exact hown, by rw [List.length_append]; have := HJ.out.len; simp; omega, fun j hj => ?_, by have := hgr.size; simp at this; omega⟩
              rw [List.length_append] at hj
              rcases Nat.lt_or_ge j zs.length with h | h
              · rw [HJ.out.all j h]
                simp [List.getD, List.getElem?_append_left h]
              · have hjz : j = zs.length := by simp at hj; omega
                subst hjz
                have hi : i - 1 = zs.length := by have := HJ.out.len; omega
                rw [← hi, ← HPP.out.1, HWV.out, hi]
                simp [List.getD])
            clear hown hgr hat7
            go_wp2_with fail
            go_roundw
            case rel => exact ⟨i + 1, zs ++ [z], by go_num, by omega, by omega, HJ7⟩
            case measure => simp [intOf]; omega
    · have hiN' : i = 4 := by omega
      subst hiN'
      have h0' : wr.cell? ⟨q, 0, none⟩ = some (str x0) := HCW.out wr HJ.out.below 0 (by omega)
      obtain ⟨za, zb, zc, rfl⟩ : ∃ za zb zc, zs = [za, zb, zc] := by
        have h := HJ.out.len
        match zs, h with
        | [za, zb, zc], _ => exact ⟨za, zb, zc, rfl⟩
      obtain ⟨no, nc, rfl⟩ := owns_shape HJ.out.row
      obtain ⟨nb, rfl⟩ : ∃ nb, no = some ⟨nb, 0, none⟩ := by
        rcases HJ.out.row.2 with ⟨_, h0⟩ | ⟨g1, cap, cur, h1, _⟩
        · simp at h0
        · simp only [Value.slice.injEq] at h1
          exact ⟨g1, h1.1⟩
      have hnb := (HJ.out.row.lt nb rfl).1
      have hnb1 : nb ≠ B + 1 := by omega
      have hnb2 : B + 1 ≠ nb := by omega
      have n0 : wr.cell? ⟨nb, 0, none⟩ = some (.int .i64 za) := HJ.out.row.cellAt 0 (by simp)
      have HV0 := Lib.hid (show wordV x = some za from HJ.out.all 0 (by simp))
      have n1 : wr.cell? ⟨nb, 1, none⟩ = some (.int .i64 zb) := HJ.out.row.cellAt 1 (by simp)
      have HV1 := Lib.hid (show wordV y = some zb from HJ.out.all 1 (by simp))
      have n2 : wr.cell? ⟨nb, 2, none⟩ = some (.int .i64 zc) := HJ.out.row.cellAt 2 (by simp)
      have HV2 := Lib.hid (show wordV u = some zc from HJ.out.all 2 (by simp))
      have HP := Lib.hid (show lineR (g, n) s = lineOut (g, n) (setR (g, n) (.many zc za zb)) by rw [HR.out]; unfold manyR; rw [HV0.out, HV1.out, HV2.out])
      obtain ⟨pp, hpp⟩ : ∃ pp, lineOut (g, n) (setR (g, n) (.many zc za zb)) = pp := ⟨_, rfl⟩
      have HC3 := Lib.hid (fun (W : World) (hb : Below wr.heap.size wr W) (hs : SubAt W wr.heap.size za zb) => setTo_any g n (.many zc za zb) (manyG zc wr.heap.size) ⟨wordV_near HV2.out, wordV_near HV0.out, wordV_near HV1.out⟩ HGN.out.1 HGN.out.2 gK xa gb gao gn gc W (HA2.out.gen.on hb) ⟨wr.heap.size, rfl, hs⟩)
      rw [hpp] at HC3 HP
      clear hpp
      have c0 : wr.cell? ⟨B, 0, none⟩ = some (.int .i64 gK) := HA2.out.dsk.cell 0
      have c1 : wr.cell? ⟨B, 1, none⟩ = some (.int .i64 xa) := HA2.out.dsk.cell 1
      have c2 : wr.cell? ⟨B, 2, none⟩ = some (.int .i64 gb) := HA2.out.dsk.cell 2
      have c3 : wr.cell? ⟨B, 3, none⟩ = some (.slice gao gn gc) := HA2.out.dsk.cell 3
      have c4 : wr.cell? ⟨B, 4, none⟩ = some (.int .i64 n) := HA2.out.dsk.cell 4
      have HSK := Lib.hid (show ∀ w' : World, Below wr.heap.size wr w' → (w'.cell? ⟨B, 0, none⟩ = some (.int .i64 gK) ∧ w'.cell? ⟨B, 1, none⟩ = some (.int .i64 xa) ∧ w'.cell? ⟨B, 2, none⟩ = some (.int .i64 gb) ∧ w'.cell? ⟨B, 3, none⟩ = some (.slice gao gn gc) ∧ w'.cell? ⟨B, 4, none⟩ = some (.int .i64 n) ∧ w'.cell? ⟨nb, 0, none⟩ = some (.int .i64 za) ∧ w'.cell? ⟨nb, 1, none⟩ = some (.int .i64 zb) ∧ w'.cell? ⟨nb, 2, none⟩ = some (.int .i64 zc)) from fun w' hb => ⟨(HA2.out.dsk.below hb).cell 0, (HA2.out.dsk.below hb).cell 1, (HA2.out.dsk.below hb).cell 2, (HA2.out.dsk.below hb).cell 3, (HA2.out.dsk.below hb).cell 4, (hb.cell (World.block_lt_of_cell? wr _ n0)).trans n0, (hb.cell (World.block_lt_of_cell? wr _ n1)).trans n1, (hb.cell (World.block_lt_of_cell? wr _ n2)).trans n2⟩)
      go_wp2_with fail
      refine wp_region_held_drew (S := fun w' => w'.cell? ⟨B, 0, none⟩ = some (.int .i64 gK) ∧ w'.cell? ⟨B, 1, none⟩ = some (.int .i64 xa) ∧ w'.cell? ⟨B, 2, none⟩ = some (.int .i64 gb) ∧ w'.cell? ⟨B, 3, none⟩ = some (.slice gao gn gc) ∧ w'.cell? ⟨B, 4, none⟩ = some (.int .i64 n) ∧ w'.cell? ⟨nb, 0, none⟩ = some (.int .i64 za) ∧ w'.cell? ⟨nb, 1, none⟩ = some (.int .i64 zb) ∧ w'.cell? ⟨nb, 2, none⟩ = some (.int .i64 zc)) (by kernel_rfl) ?hSR1_0 (fun hHeld => ?_)
      case hSR1_0 =>
        exact HSK.out _ ((Below.refl _ _).drew)
      refine wpAnyH_take (i := 0) (v := ?vvR1_0) rfl (by kernel_rfl) (by kernel_rfl) (by kernel_rfl) (fun _ _ _ h => h) (Or.inl ⟨by rfl, ?hyR1_0⟩) (by assumption) ?restR1_0
      case hyR1_0 => ((intro w hSw; (try dsimp only at hSw); go_simp) <;> with_reducible rfl)
      try simp only [sA, sC, Act.put, sD, sE, sF]
      refine wpAnyH_take (i := 1) (v := ?vvR1_1) rfl (by kernel_rfl) (by kernel_rfl) (by kernel_rfl) (fun _ _ _ h => h) (Or.inl ⟨by rfl, ?hyR1_1⟩) (by assumption) ?restR1_1
      case hyR1_1 => ((intro w hSw; (try dsimp only at hSw); go_simp) <;> with_reducible rfl)
      try simp only [sA, sB, sC, Act.put, sD, sE, sF]
      refine wpAnyH_take (i := 2) (v := ?vvR1_2) rfl (by kernel_rfl) (by kernel_rfl) (by kernel_rfl) (fun _ _ _ h => h) (Or.inl ⟨by rfl, ?hyR1_2⟩) (by assumption) ?restR1_2
      case hyR1_2 => ((intro w hSw; (try dsimp only at hSw); go_simp) <;> with_reducible rfl)
      try simp only [sA, sB, sC, Act.put, sD, sE, sF]
      refine wpAnyH_take (i := 3) (v := ?vvR1_3) rfl (by kernel_rfl) (by kernel_rfl) (by kernel_rfl) (fun _ _ _ h => h) (Or.inl ⟨by rfl, ?hyR1_3⟩) (by assumption) ?restR1_3
      case hyR1_3 => ((intro w hSw; (try dsimp only at hSw); go_simp) <;> with_reducible rfl)
      try simp only [sA, sB, sC, Act.put, sD, sE, sF]
      refine wpAnyH_take (i := 4) (v := ?vvR1_4) rfl (by kernel_rfl) (by kernel_rfl) (by kernel_rfl) (fun _ _ _ h => h) (Or.inl ⟨by rfl, ?hyR1_4⟩) (by assumption) ?restR1_4
      case hyR1_4 => ((intro w hSw; (try dsimp only at hSw); go_simp) <;> with_reducible rfl)
      try simp only [sA, sB, sC, Act.put, sD, sE, sF]
      refine wpAnyH_take (i := 5) (v := ?vvR1_5) rfl (by kernel_rfl) (by kernel_rfl) (by kernel_rfl) (fun _ _ _ h => h) (Or.inl ⟨by rfl, ?hyR1_5⟩) (by assumption) ?restR1_5
      case hyR1_5 => ((intro w hSw; (try dsimp only at hSw); go_simp) <;> with_reducible rfl)
      try simp only [sA, sB, sC, Act.put, sD, sE, sF]
      refine wpAnyH_take (i := 6) (v := ?vvR1_6) rfl (by kernel_rfl) (by kernel_rfl) (by kernel_rfl) (fun _ _ _ h => h) (Or.inl ⟨by rfl, ?hyR1_6⟩) (by assumption) ?restR1_6
      case hyR1_6 => ((intro w hSw; (try dsimp only at hSw); go_simp) <;> with_reducible rfl)
      try simp only [sA, sB, sC, Act.put, sD, sE, sF]
      refine wpAnyH_take (i := 7) (v := ?vvR1_7) rfl (by kernel_rfl) (by kernel_rfl) (by kernel_rfl) (fun _ _ _ h => h) (Or.inl ⟨by rfl, ?hyR1_7⟩) (by assumption) ?restR1_7
      case hyR1_7 => ((intro w hSw; (try dsimp only at hSw); go_simp) <;> with_reducible rfl)
      try simp only [sA, sB, sC, Act.put, sD, sE, sF]
      refine wpAnyH_take (i := 8) (v := ?vvR1_8) rfl (by kernel_rfl) (by kernel_rfl) (by kernel_rfl) (fun _ _ _ h => h) (Or.inl ⟨by rfl, ?hyR1_8⟩) (by assumption) ?restR1_8
      case hyR1_8 => ((intro w hSw; (try dsimp only at hSw); go_simp) <;> with_reducible rfl)
      try simp only [sA, sB, sC, Act.put, sD, sE, sF]
      refine wpAnyH_take (i := 9) (v := ?vvR1_9) rfl (by kernel_rfl) (by kernel_rfl) (by kernel_rfl) (fun _ _ _ h => h) (Or.inl ⟨by rfl, ?hyR1_9⟩) (by assumption) ?restR1_9
      case hyR1_9 => ((intro w hSw; (try dsimp only at hSw); go_simp) <;> with_reducible rfl)
      try simp only [sA, sB, sC, Act.put, sD, sE, sF]
      refine wpAnyH_take (i := 10) (v := ?vvR1_10) rfl (by kernel_rfl) (by kernel_rfl) (by kernel_rfl) (fun _ _ _ h => h) (Or.inl ⟨by rfl, ?hyR1_10⟩) (by assumption) ?restR1_10
      case hyR1_10 => ((intro w hSw; (try dsimp only at hSw); go_simp) <;> with_reducible rfl)
      try simp only [sA, sB, sC, Act.put, sD, sE, sF]
      refine wpAnyH_ready (rs := [11]) (by kernel_rfl) (by simp) ?_
      refine AllReadyH.cons rfl (fun K hK => ?_) AllReadyH.nil
      go_simp
      refine hK.out _ _ ?hSR1_11 (fun hHeld => ?_)
      case hSR1_11 => exact HSK.out _ (by first | exact ((Below.refl _ wr).drew).alloc (Nat.le_refl _) _ | exact ((Below.refl _ wr).alloc (Nat.le_refl _) _).drew)
      clear hK K
      try simp only [sA, sB, sC, Act.put, sD, sE, sF]
      refine wpAnyH_take (i := 12) (v := ?vvR1_12) rfl (by kernel_rfl) (by kernel_rfl) (by kernel_rfl) (fun _ _ _ h => h) (Or.inl ⟨by rfl, ?hyR1_12⟩) (by assumption) ?restR1_12
      case hyR1_12 => ((intro w hSw; (try dsimp only at hSw); go_simp) <;> with_reducible rfl)
      try simp only [sA, sB, sC, Act.put, sD, sE, sF]
      refine wpAnyH_ready (rs := [13]) (by kernel_rfl) (by simp) ?_
      refine AllReadyH.cons rfl (fun K hK => ?_) AllReadyH.nil
      go_simp
      go_at_call 21
      refine (HC3.out _ (by first | exact ((Below.refl _ wr).drew).alloc (Nat.le_refl _) _ | exact ((Below.refl _ wr).alloc (Nat.le_refl _) _).drew) (by first | exact heap_alloc_at _ _ rfl | exact heap_drew_at (heap_alloc_at _ _ rfl))).mono ?_
      rintro e w5 ⟨hb5, v5, rfl, aK, a1, a2, a3, a4, a5, rfl, hgen5, hr5, hn5⟩
      have hb5' : Below wr.heap.size wr w5 := Below.trans (by first | exact ((Below.refl _ wr).drew).alloc (Nat.le_refl _) _ | exact ((Below.refl _ wr).alloc (Nat.le_refl _) _).drew) (hb5.mono (by simp))
      have HA5 := Lib.hid (HA2.out.on hb5')
      have HB5 := Lib.hid hb5'
      have HG5 := Lib.hid (And.intro hgen5 (And.intro hr5 hn5))
      clear hb5 hb5' hgen5 hr5 hn5
      have r0 : w5.cell? ⟨B + 1, 0, none⟩ = some (.int .i64 0) := HA5.out.res.cell 0
      have r1 : w5.cell? ⟨B + 1, 1, none⟩ = some (.int .i64 0) := HA5.out.res.cell 1
      have r2 : w5.cell? ⟨B + 1, 2, none⟩ = some (.int .i64 0) := HA5.out.res.cell 2
      have r3 : w5.cell? ⟨B + 1, 3, none⟩ = some (.slice none 0 0) := HA5.out.res.cell 3
      have r4 : w5.cell? ⟨B + 1, 4, none⟩ = some (.int .i64 0) := HA5.out.res.cell 4
      have rf0 : w5.frozen? ⟨B + 1, 0, none⟩ = false := HA5.out.res.froz 0
      have rf1 : w5.frozen? ⟨B + 1, 1, none⟩ = false := HA5.out.res.froz 1
      have rf2 : w5.frozen? ⟨B + 1, 2, none⟩ = false := HA5.out.res.froz 2
      have rf3 : w5.frozen? ⟨B + 1, 3, none⟩ = false := HA5.out.res.froz 3
      have rf4 : w5.frozen? ⟨B + 1, 4, none⟩ = false := HA5.out.res.froz 4
      refine hK.out _ _ ?hSR1_13 (fun hHeld => ?_)
      case hSR1_13 => exact HSK.out _ HB5.out
      clear hK K
      try simp only [sA, sB, sC, Act.put, sD, sE, sF]
      refine wpAnyH_take (i := 14) (v := ?vvR1_14) rfl (by kernel_rfl) (by kernel_rfl) (by kernel_rfl) (fun _ _ _ h => h) (Or.inl ⟨by rfl, ?hyR1_14⟩) (by assumption) ?restR1_14
      case hyR1_14 => ((intro w hSw; (try dsimp only at hSw); go_simp) <;> with_reducible rfl)
      try simp only [sA, sB, sC, Act.put, sD, sE, sF]
      refine wpAnyH_take (i := 15) (v := ?vvR1_15) rfl (by kernel_rfl) (by kernel_rfl) (by kernel_rfl) (fun _ _ _ h => h) (Or.inl ⟨by rfl, ?hyR1_15⟩) (by assumption) ?restR1_15
      case hyR1_15 => ((intro w hSw; (try dsimp only at hSw); go_simp) <;> with_reducible rfl)
      try simp only [sA, sB, sC, Act.put, sD, sE, sF]
      refine wpAnyH_ready (rs := [16]) (by kernel_rfl) (by simp) ?_
      refine AllReadyH.cons rfl (fun K hK => ?_) AllReadyH.nil
      go_simp
      refine hK.out _ _ ?hSR1_16 (fun hHeld => ?_)
      case hSR1_16 => go_keep
      clear hK K
      try simp only [sA, sB, sC, Act.put, sD, sE, sF]
      refine wpAnyH_take (i := 17) (v := ?vvR1_17) rfl (by kernel_rfl) (by kernel_rfl) (by kernel_rfl) (fun _ _ _ h => h) (Or.inl ⟨by rfl, ?hyR1_17⟩) (by assumption) ?restR1_17
      case hyR1_17 => ((intro w hSw; (try dsimp only at hSw); go_simp) <;> with_reducible rfl)
      try simp only [sA, sB, sC, Act.put, sD, sE, sF]
      refine wpAnyH_done (by kernel_rfl) ?_ _
      go_wp2_with fail
      refine bodyPost_ret (v := .tuple #[.agg #[.int .i64 aK, .int .i64 a1, .int .i64 a2, .slice a3 a4 a5, .int .i64 pp.2.2], str pp.1]) (by simp [results, Tryz.results8, go_sem, r0, r1, r2, r3, r4]) rfl ?_
      rw [HP.out]
      first | exact told2 HA5.out.below hB HA5.out.res HG5.out.1 HG5.out.2.1 HG5.out.2.2 rfl | exact (told2 HA5.out.below hB HA5.out.res HG5.out.1 HG5.out.2.1 HG5.out.2.2 rfl).drew
end Go.Proofs.YtalbllijahiiiaaGreatDoor
end

section
namespace Go.Proofs.YtalbllijahiiiaaGreatDoor
open Go.RowKit Go.Mine Go.Mine.Desk

set_option maxRecDepth 100000 in
set_option maxHeartbeats 4000000 in
theorem ans_limit (g : G) (n : Int) (hg : g.right) (hn : near n) (gK xa gb : Int) (gao : Option Addr) (gn gc : Nat) (s : Bytes) (hs : s.length ≤ 1100000) (x0 x : Bytes) (hw : cuts 32 s = [x0, x]) (hx0 : x0 = kLimit) (hne : s ≠ kCount) (hall : ∀ p ∈ [x], wordV p ≠ none) (w : World) (hv : GenAt w (.agg #[.int .i64 gK, .int .i64 xa, .int .i64 gb, .slice gao gn gc]) g) :
    Calls Tryz.prog 8 #[.agg #[.int .i64 gK, .int .i64 xa, .int .i64 gb, .slice gao gn gc, .int .i64 n], str s] w (AnsPost (lineR (g, n) s) w) := by
  have hsc : (s == [99, 111, 117, 110, 116]) = false := beq_eq_false_iff_ne.2 hne
  obtain ⟨w0, hw0⟩ : ∃ w0, w0 = (w.alloc (.cells #[.int .i64 gK, .int .i64 xa, .int .i64 gb, .slice gao gn gc, .int .i64 n] 30)).alloc (.cells #[.int .i64 0, .int .i64 0, .int .i64 0, .slice none 0 0, .int .i64 0] 30) := ⟨_, rfl⟩
  obtain ⟨B, hB⟩ : ∃ B, w.heap.size = B := ⟨_, rfl⟩
  have HA0 := Lib.hid (AN.start hB hv hw0)
  have HC := Lib.hid (show Calls Tryz.prog 7 #[str s, .int .u8 32] w0 (fun e w' => (∃ v, e = .returned v ∧ w'.ownsRow w0.heap.size 9 1 v (cuts 32 s).length ((cuts 32 s).map str)) ∧ Below w0.heap.size w0 w') from by
    have h := Cut_any s 32 hs w0
    rw [show (((32 : UInt8).toNat : Nat) : Int) = 32 from rfl] at h
    exact h)
  have HW := Lib.hid hw0
  have HGN := Lib.hid (And.intro hg hn)
  clear hw0 hv hg hn
  have bShow : (x0 == [115, 104, 111, 119]) = false := by rw [hx0]; rfl
  have bLess : (x0 == [108, 101, 115, 115]) = false := by rw [hx0]; rfl
  have bInt : (x0 == [105, 110, 116]) = false := by rw [hx0]; rfl
  have bMany : (x0 == [109, 97, 110, 121]) = false := by rw [hx0]; rfl
  have bLimit : (x0 == [108, 105, 109, 105, 116]) = true := by rw [hx0]; rfl
  have HR := Lib.hid (show lineR (g, n) s = lineOut (g, n) (limitR (g, n) x) by unfold lineR; rw [hw, hx0]; rfl)
  have hN : [x].length + 1 = 2 := rfl
  have HALL := Lib.hid hall
  clear hall hx0
  rw [hw] at HC
  have HN := Lib.hid hN
  rw [List.length_cons, hN] at HC
  clear hne hw hs
  go_enter Tryz.func8, Tryz.ntmps8
  go_upto_region 1 with fail
  rw [← HW.out]
  go_wp2_with fail
  refine HC.out.mono ?_
  clear HC
  rintro e w1 ⟨⟨v, rfl, hown⟩, hb1⟩
  obtain ⟨ro, rc, rfl⟩ := owns_shape hown
  have HA1 := Lib.hid (HA0.out.on hb1)
  obtain ⟨q, rfl⟩ : ∃ q, ro = some ⟨q, 0, none⟩ := by
    rcases hown.2 with ⟨_, h0⟩ | ⟨q, cap, cur, h1, _⟩
    · omega
    · simp only [Value.slice.injEq] at h1
      exact ⟨q, h1.1⟩
  have HCW := Lib.hid (show ∀ W, Below w1.heap.size w1 W → ∀ j, j < 2 → W.cell? ⟨q, j, none⟩ = some (str ((x0 :: [x]).getD j [])) from fun W hb j hj => by
    have hj' : j < (x0 :: [x]).length := by rw [List.length_cons]; omega
    rw [hb.cell (hown.lt q rfl).2, hown.cellAt j (by omega)]
    simp only [List.getElem?_map, List.getD, List.getElem?_eq_getElem hj', Option.map_some, Option.getD_some])
  have h0 : w1.cell? ⟨q, 0, none⟩ = some (str x0) := HCW.out w1 (Below.refl _ _) 0 (by omega)
  obtain ⟨Q, hQ⟩ : ∃ Q, w1.heap.size = Q := ⟨_, rfl⟩
  have HL0 := Lib.hid (show LN w1 w1 Q [x] 1 [] (.slice none 0 0) from ⟨Below.refl _ _, World.ownsRow_nil _ _ _ _, rfl, fun j hj => by simp at hj, by omega⟩)
  have hQB : B + 1 + 1 ≤ Q := by rw [← hQ]; exact HA1.out.res.lt
  have HQ := Lib.hid hQ
  obtain ⟨i1, hj1, hy0, hy1, hy2⟩ := info_parts infoI3d
  clear hown hb1 hQ hN
  go_wp2_with fail
  go_loopw [12, 13, 14, 15] (fun nv iv _ _ wr => ∃ (i : Nat) (zs : List Int), iv = .int .i64 (i : Int) ∧ 1 ≤ i ∧ i ≤ 2 ∧ RowKit.Hid (LN w1 wr Q [x] i zs nv)) (fun _ iv _ _ _ => 2 - (intOf iv).toNat)
  case atStart => exact ⟨1, [], rfl, by omega, by omega, HL0⟩
  case round =>
    obtain ⟨i, zs, rfl, hi1', hiN, HJ⟩ := hrel
    have HA2 := Lib.hid (HA1.out.on HJ.out.below)
    rcases Nat.lt_or_ge i 2 with hlt | hge
    · have hcell := HCW.out wr HJ.out.below i hlt
      obtain ⟨p, hp⟩ : ∃ p, p = [x].getD (i - 1) [] := ⟨_, rfl⟩
      have hpe : (x0 :: [x]).getD i [] = p := by
        obtain ⟨j, rfl⟩ : ∃ j, i = j + 1 := ⟨i - 1, by omega⟩
        rw [hp]; rfl
      have hmem : p ∈ [x] := by
        have hl : i - 1 < [x].length := by have := HN.out; omega
        rw [hp, List.getD, List.getElem?_eq_getElem hl]
        exact List.getElem_mem hl
      rw [hpe] at hcell
      have HPP := Lib.hid (And.intro hp hmem)
      have hj0 : (0 : Int) ≤ (i : Int) := by omega
      have hj1' : (i : Int) < (2 : Int) := by omega
      have hw1 : IntKind.i64.wrap ((i : Int) + 1) = ((i + 1 : Nat) : Int) := by rw [IntWalk.i64_in _ (by omega)]; omega
      have HNW := Lib.hid (num_walk p wr)
      clear hp hpe hmem
      go_wp2_with fail
      refine HNW.out.mono ?_
      clear HNW hcell
      rintro e w3 ⟨⟨z, bb, rfl, h64, hnum⟩, hb3⟩
      have HA3 := Lib.hid (HA2.out.on hb3)
      have HNM := Lib.hid hnum
      have HLN3 := Lib.hid (show LN w1 w3 Q [x] i zs _ from ⟨HJ.out.below.trans (hb3.mono HJ.out.below.size), owns_below HJ.out.row hb3, HJ.out.len, HJ.out.all, Nat.le_trans HJ.out.size hb3.size⟩)
      have hzb : zs.length + 1 ≤ 2 := by have := HJ.out.len; omega
      have hsz3 := HLN3.out.size
      unfold i64ok at h64
      clear hnum hb3
      cases bb with
      | false =>
        exact absurd (word_none1 (HNM.out.2 rfl)) (HALL.out p HPP.out.2)
      | true =>
        by_cases z1 : z < -1073741824
        · have d1 : decide (z < -1073741824) = true := decide_eq_true z1
          exact absurd (word_none2 (HNM.out.1 rfl) (.inl z1)) (HALL.out p HPP.out.2)
        · have d1 : decide (z < -1073741824) = false := decide_eq_false z1
          by_cases z2 : 1073741824 < z
          · have d2 : decide (1073741824 < z) = true := decide_eq_true z2
            exact absurd (word_none2 (HNM.out.1 rfl) (.inr z2)) (HALL.out p HPP.out.2)
          · have d2 : decide (1073741824 < z) = false := decide_eq_false z2
            have HWV := Lib.hid (word_some (HNM.out.1 rfl) z1 z2)
            go_wp2_with (at_builtin; refine wpList_push2 _ rfl _ _ 48 rfl Q 3 i1 (.int .i64 0) 1 8 Tryz.underlying48 hj1 hy0 hy1 hy2 rfl (by decide) _ _ _ rfl (HLN3.out.row.alloc _) ⟨w3.heap.size, 0, none⟩ 1 [.int .i64 z] rfl rfl (World.news_of_block (cs := #[.int .i64 z]) (t := 3) (fr := (0, 0)) (heap_alloc_at _ _ rfl)) (one1 _ _) (by unfold maxLen; omega) (by omega) (by simp; omega) ?_)
            intro gq cap w7 hown hgr hat7
            have HJ7 := Lib.hid (show LN w1 w7 Q [x] (i + 1) (zs ++ [z]) (.slice (some ⟨gq, 0, none⟩) (zs.length + 1) cap) from by
              refine ⟨(HLN3.out.below.alloc HLN3.out.below.size (.cells #[.int .i64 z] 3)).grown hgr (by have := HLN3.out.below.size; simp; omega) (fun k hk => by have := (HLN3.out.row.lt k hk).1; have := HQ.out; omega), by rw [List.length_append, List.map_append]; exact hown, by rw [List.length_append]; have := HJ.out.len; simp; omega, fun j hj => ?_, by have := hgr.size; simp at this; omega⟩
              rw [List.length_append] at hj
              rcases Nat.lt_or_ge j zs.length with h | h
              · rw [HJ.out.all j h]
                simp [List.getD, List.getElem?_append_left h]
              · have hjz : j = zs.length := by simp at hj; omega
                subst hjz
                have hi : i - 1 = zs.length := by have := HJ.out.len; omega
                rw [← hi, ← HPP.out.1, HWV.out, hi]
                simp [List.getD])
            clear hown hgr hat7
            go_wp2_with fail
            go_roundw
            case rel => exact ⟨i + 1, zs ++ [z], by go_num, by omega, by omega, HJ7⟩
            case measure => simp [intOf]; omega
    · have hiN' : i = 2 := by omega
      subst hiN'
      have h0' : wr.cell? ⟨q, 0, none⟩ = some (str x0) := HCW.out wr HJ.out.below 0 (by omega)
      obtain ⟨za, rfl⟩ : ∃ za, zs = [za] := by
        have h := HJ.out.len
        match zs, h with
        | [za], _ => exact ⟨za, rfl⟩
      obtain ⟨no, nc, rfl⟩ := owns_shape HJ.out.row
      obtain ⟨nb, rfl⟩ : ∃ nb, no = some ⟨nb, 0, none⟩ := by
        rcases HJ.out.row.2 with ⟨_, h0⟩ | ⟨g1, cap, cur, h1, _⟩
        · simp at h0
        · simp only [Value.slice.injEq] at h1
          exact ⟨g1, h1.1⟩
      have hnb := (HJ.out.row.lt nb rfl).1
      have hnb1 : nb ≠ B + 1 := by omega
      have hnb2 : B + 1 ≠ nb := by omega
      have n0 : wr.cell? ⟨nb, 0, none⟩ = some (.int .i64 za) := HJ.out.row.cellAt 0 (by simp)
      have HV0 := Lib.hid (show wordV x = some za from HJ.out.all 0 (by simp))
      have HP := Lib.hid (show lineR (g, n) s = (okT, (g, za)) by rw [HR.out]; unfold limitR; rw [HV0.out]; rfl)
      have c0 : wr.cell? ⟨B, 0, none⟩ = some (.int .i64 gK) := HA2.out.dsk.cell 0
      have c1 : wr.cell? ⟨B, 1, none⟩ = some (.int .i64 xa) := HA2.out.dsk.cell 1
      have c2 : wr.cell? ⟨B, 2, none⟩ = some (.int .i64 gb) := HA2.out.dsk.cell 2
      have c3 : wr.cell? ⟨B, 3, none⟩ = some (.slice gao gn gc) := HA2.out.dsk.cell 3
      have c4 : wr.cell? ⟨B, 4, none⟩ = some (.int .i64 n) := HA2.out.dsk.cell 4
      have cf4 := HA2.out.dsk.froz 4
      have r0 : wr.cell? ⟨B + 1, 0, none⟩ = some (.int .i64 0) := HA2.out.res.cell 0
      have r1 : wr.cell? ⟨B + 1, 1, none⟩ = some (.int .i64 0) := HA2.out.res.cell 1
      have r2 : wr.cell? ⟨B + 1, 2, none⟩ = some (.int .i64 0) := HA2.out.res.cell 2
      have r3 : wr.cell? ⟨B + 1, 3, none⟩ = some (.slice none 0 0) := HA2.out.res.cell 3
      have r4 : wr.cell? ⟨B + 1, 4, none⟩ = some (.int .i64 0) := HA2.out.res.cell 4
      have rf0 : wr.frozen? ⟨B + 1, 0, none⟩ = false := HA2.out.res.froz 0
      have rf1 : wr.frozen? ⟨B + 1, 1, none⟩ = false := HA2.out.res.froz 1
      have rf2 : wr.frozen? ⟨B + 1, 2, none⟩ = false := HA2.out.res.froz 2
      have rf3 : wr.frozen? ⟨B + 1, 3, none⟩ = false := HA2.out.res.froz 3
      have rf4 : wr.frozen? ⟨B + 1, 4, none⟩ = false := HA2.out.res.froz 4
      go_wp2_with fail
      refine bodyPost_ret (v := .tuple #[.agg #[.int .i64 gK, .int .i64 xa, .int .i64 gb, .slice gao gn gc, .int .i64 za], str okT]) (by simp [results, Tryz.results8, go_sem, r0, r1, r2, r3, r4, okT]) rfl ?_
      rw [HP.out]
      exact told2 (p := (okT, (g, za))) (W := wr.setCell ⟨B, 4, none⟩ (.int .i64 za)) (HA2.out.below.setCell (by show w.heap.size ≤ B; omega) _) hB (HA2.out.res.other B 4 (by omega) _) (HA2.out.gen.kept fun b a c hs => Below.heap_setCell _ _ _ _ (sub_far hs HA2.out.dsk (by decide))) HGN.out.1 (wordV_near HV0.out) rfl
end Go.Proofs.YtalbllijahiiiaaGreatDoor
end
