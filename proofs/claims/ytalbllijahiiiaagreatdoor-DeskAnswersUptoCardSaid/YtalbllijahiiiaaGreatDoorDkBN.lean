/- assayerref2.Answered: nth. -/
import Derived.Test.YtalbllijahiiiaaGreatDoorDkBJ
import Derived.Deep.RegionHeld
namespace Go.Proofs.YtalbllijahiiiaaGreatDoor
open Go.RowKit Go.Mine Go.Mine.Desk

set_option maxRecDepth 100000 in
set_option maxHeartbeats 4000000 in
theorem ans_nth (g : G) (n : Int) (hg : g.right) (hn : near n) (gK xa gb : Int) (gao : Option Addr) (gn gc : Nat) (s : Bytes) (hs : s.length ≤ 1100000) (x0 x : Bytes) (hw : cuts 32 s = [x0, x]) (hx0 : x0 = kNth) (hne : s ≠ kCount) (hall : ∀ p ∈ [x], wordV p ≠ none) (w : World) (hv : GenAt w (.agg #[.int .i64 gK, .int .i64 xa, .int .i64 gb, .slice gao gn gc]) g) :
    Calls Tryz.prog 8 #[.agg #[.int .i64 gK, .int .i64 xa, .int .i64 gb, .slice gao gn gc, .int .i64 n], str s] w (AnsPost (lineR (g, n) s) w) := by
  have hsc : (s == [99, 111, 117, 110, 116]) = false := beq_eq_false_iff_ne.2 hne
  obtain ⟨w0, hw0⟩ : ∃ w0, w0 = (w.alloc (.cells #[.int .i64 gK, .int .i64 xa, .int .i64 gb, .slice gao gn gc, .int .i64 n] 30)).alloc (.cells #[.int .i64 0, .int .i64 0, .int .i64 0, .slice none 0 0, .int .i64 0] 30) := ⟨_, rfl⟩
  obtain ⟨B, hB⟩ : ∃ B, w.heap.size = B := ⟨_, rfl⟩
  have HA0 := Lib.hid (AN.start hB hv hw0)
  have HC := Lib.hid (show Calls Tryz.prog 7 #[str s, .int .u8 32] w0 (fun e w' => (∃ v, e = .returned v ∧ w'.ownsRow w0.heap.size 9 1 v (cuts 32 s).length ((cuts 32 s).map str)) ∧ Below w0.heap.size w0 w') from by
    have h := Cut_any s 32 hs w0
    rw [show (((32 : UInt8).toNat : Nat) : Int) = 32 from rfl] at h
    exact h)
  have HW := Lib.hid hw0
  have HGN := Lib.hid (And.intro hg hn)
  clear hw0 hv hg hn
  have bShow : (x0 == [115, 104, 111, 119]) = false := by rw [hx0]; rfl
  have bLess : (x0 == [108, 101, 115, 115]) = false := by rw [hx0]; rfl
  have bInt : (x0 == [105, 110, 116]) = false := by rw [hx0]; rfl
  have bMany : (x0 == [109, 97, 110, 121]) = false := by rw [hx0]; rfl
  have bLimit : (x0 == [108, 105, 109, 105, 116]) = false := by rw [hx0]; rfl
  have bNth : (x0 == [110, 116, 104]) = true := by rw [hx0]; rfl
  have HR := Lib.hid (show lineR (g, n) s = lineOut (g, n) (nthF (g, n) x) by unfold lineR; rw [hw, hx0]; rfl)
  have hN : [x].length + 1 = 2 := rfl
  have HALL := Lib.hid hall
  clear hall hx0
  rw [hw] at HC
  have HN := Lib.hid hN
  rw [List.length_cons, hN] at HC
  clear hne hw hs
  go_enter Tryz.func8, Tryz.ntmps8
  go_upto_region 1 with fail
  rw [← HW.out]
  go_wp2_with fail
  refine HC.out.mono ?_
  clear HC
  rintro e w1 ⟨⟨v, rfl, hown⟩, hb1⟩
  obtain ⟨ro, rc, rfl⟩ := owns_shape hown
  have HA1 := Lib.hid (HA0.out.on hb1)
  obtain ⟨q, rfl⟩ : ∃ q, ro = some ⟨q, 0, none⟩ := by
    rcases hown.2 with ⟨_, h0⟩ | ⟨q, cap, cur, h1, _⟩
    · omega
    · simp only [Value.slice.injEq] at h1
      exact ⟨q, h1.1⟩
  have HCW := Lib.hid (show ∀ W, Below w1.heap.size w1 W → ∀ j, j < 2 → W.cell? ⟨q, j, none⟩ = some (str ((x0 :: [x]).getD j [])) from fun W hb j hj => by
    have hj' : j < (x0 :: [x]).length := by rw [List.length_cons]; omega
    rw [hb.cell (hown.lt q rfl).2, hown.cellAt j (by omega)]
    simp only [List.getElem?_map, List.getD, List.getElem?_eq_getElem hj', Option.map_some, Option.getD_some])
  have h0 : w1.cell? ⟨q, 0, none⟩ = some (str x0) := HCW.out w1 (Below.refl _ _) 0 (by omega)
  obtain ⟨Q, hQ⟩ : ∃ Q, w1.heap.size = Q := ⟨_, rfl⟩
  have HL0 := Lib.hid (show LN w1 w1 Q [x] 1 [] (.slice none 0 0) from ⟨Below.refl _ _, World.ownsRow_nil _ _ _ _, rfl, fun j hj => by simp at hj, by omega⟩)
  have hQB : B + 1 + 1 ≤ Q := by rw [← hQ]; exact HA1.out.res.lt
  have HQ := Lib.hid hQ
  obtain ⟨i1, hj1, hy0, hy1, hy2⟩ := info_parts infoI3d
  clear hown hb1 hQ hN
  go_wp2_with fail
  go_loopw [12, 13, 14, 15] (fun nv iv _ _ wr => ∃ (i : Nat) (zs : List Int), iv = .int .i64 (i : Int) ∧ 1 ≤ i ∧ i ≤ 2 ∧ RowKit.Hid (LN w1 wr Q [x] i zs nv)) (fun _ iv _ _ _ => 2 - (intOf iv).toNat)
  case atStart => exact ⟨1, [], rfl, by omega, by omega, HL0⟩
  case round =>
    obtain ⟨i, zs, rfl, hi1', hiN, HJ⟩ := hrel
    have HA2 := Lib.hid (HA1.out.on HJ.out.below)
    rcases Nat.lt_or_ge i 2 with hlt | hge
    · have hcell := HCW.out wr HJ.out.below i hlt
      obtain ⟨p, hp⟩ : ∃ p, p = [x].getD (i - 1) [] := ⟨_, rfl⟩
      have hpe : (x0 :: [x]).getD i [] = p := by
        obtain ⟨j, rfl⟩ : ∃ j, i = j + 1 := ⟨i - 1, by omega⟩
        rw [hp]; rfl
      have hmem : p ∈ [x] := by
        have hl : i - 1 < [x].length := by have := HN.out; omega
        rw [hp, List.getD, List.getElem?_eq_getElem hl]
        exact List.getElem_mem hl
      rw [hpe] at hcell
      have HPP := Lib.hid (And.intro hp hmem)
      have hj0 : (0 : Int) ≤ (i : Int) := by omega
      have hj1' : (i : Int) < (2 : Int) := by omega
      have hw1 : IntKind.i64.wrap ((i : Int) + 1) = ((i + 1 : Nat) : Int) := by rw [IntWalk.i64_in _ (by omega)]; omega
      have HNW := Lib.hid (num_walk p wr)
      clear hp hpe hmem
      go_wp2_with fail
      refine HNW.out.mono ?_
      clear HNW hcell
      rintro e w3 ⟨⟨z, bb, rfl, h64, hnum⟩, hb3⟩
      have HA3 := Lib.hid (HA2.out.on hb3)
      have HNM := Lib.hid hnum
      have HLN3 := Lib.hid (show LN w1 w3 Q [x] i zs _ from ⟨HJ.out.below.trans (hb3.mono HJ.out.below.size), owns_below HJ.out.row hb3, HJ.out.len, HJ.out.all, Nat.le_trans HJ.out.size hb3.size⟩)
      have hzb : zs.length + 1 ≤ 2 := by have := HJ.out.len; omega
      have hsz3 := HLN3.out.size
      unfold i64ok at h64
      clear hnum hb3
      cases bb with
      | false =>
        exact absurd (word_none1 (HNM.out.2 rfl)) (HALL.out p HPP.out.2)
      | true =>
        by_cases z1 : z < -1073741824
        · have d1 : decide (z < -1073741824) = true := decide_eq_true z1
          exact absurd (word_none2 (HNM.out.1 rfl) (.inl z1)) (HALL.out p HPP.out.2)
        · have d1 : decide (z < -1073741824) = false := decide_eq_false z1
          by_cases z2 : 1073741824 < z
          · have d2 : decide (1073741824 < z) = true := decide_eq_true z2
            exact absurd (word_none2 (HNM.out.1 rfl) (.inr z2)) (HALL.out p HPP.out.2)
          · have d2 : decide (1073741824 < z) = false := decide_eq_false z2
            have HWV := Lib.hid (word_some (HNM.out.1 rfl) z1 z2)
            go_wp2_with (at_builtin; refine wpList_push2 _ rfl _ _ 48 rfl Q 3 i1 (.int .i64 0) 1 8 Tryz.underlying48 hj1 hy0 hy1 hy2 rfl (by decide) _ _ _ rfl (HLN3.out.row.alloc _) ⟨w3.heap.size, 0, none⟩ 1 [.int .i64 z] rfl rfl (World.news_of_block (cs := #[.int .i64 z]) (t := 3) (fr := (0, 0)) (heap_alloc_at _ _ rfl)) (one1 _ _) (by unfold maxLen; omega) (by omega) (by simp; omega) ?_)
            intro gq cap w7 hown hgr hat7
            have HJ7 := Lib.hid (show LN w1 w7 Q [x] (i + 1) (zs ++ [z]) (.slice (some ⟨gq, 0, none⟩) (zs.length + 1) cap) from by
              refine ⟨(HLN3.out.below.alloc HLN3.out.below.size (.cells #[.int .i64 z] 3)).grown hgr (by have := HLN3.out.below.size; simp; omega) (fun k hk => by have := (HLN3.out.row.lt k hk).1; have := HQ.out; omega), by rw [List.length_append, List.map_append]; exact hown, by rw [List.length_append]; have := HJ.out.len; simp; omega, fun j hj => ?_, by have := hgr.size; simp at this; omega⟩
              rw [List.length_append] at hj
              rcases Nat.lt_or_ge j zs.length with h | h
              · rw [HJ.out.all j h]
                simp [List.getD, List.getElem?_append_left h]
              · have hjz : j = zs.length := by simp at hj; omega
                subst hjz
                have hi : i - 1 = zs.length := by have := HJ.out.len; omega
                rw [← hi, ← HPP.out.1, HWV.out, hi]
                simp [List.getD])
            clear hown hgr hat7
            go_wp2_with fail
            go_roundw
            case rel => exact ⟨i + 1, zs ++ [z], by go_num, by omega, by omega, HJ7⟩
            case measure => simp [intOf]; omega
    · have hiN' : i = 2 := by omega
      subst hiN'
      have h0' : wr.cell? ⟨q, 0, none⟩ = some (str x0) := HCW.out wr HJ.out.below 0 (by omega)
      obtain ⟨za, rfl⟩ : ∃ za, zs = [za] := by
        have h := HJ.out.len
        match zs, h with
        | [za], _ => exact ⟨za, rfl⟩
      obtain ⟨no, nc, rfl⟩ := owns_shape HJ.out.row
      obtain ⟨nb, rfl⟩ : ∃ nb, no = some ⟨nb, 0, none⟩ := by
        rcases HJ.out.row.2 with ⟨_, h0⟩ | ⟨g1, cap, cur, h1, _⟩
        · simp at h0
        · simp only [Value.slice.injEq] at h1
          exact ⟨g1, h1.1⟩
      have hnb := (HJ.out.row.lt nb rfl).1
      have hnb1 : nb ≠ B + 1 := by omega
      have hnb2 : B + 1 ≠ nb := by omega
      have n0 : wr.cell? ⟨nb, 0, none⟩ = some (.int .i64 za) := HJ.out.row.cellAt 0 (by simp)
      have HV0 := Lib.hid (show wordV x = some za from HJ.out.all 0 (by simp))
      have HKC := Lib.hid (CountOf_any g (.agg #[.int .i64 gK, .int .i64 xa, .int .i64 gb, .slice gao gn gc]) HGN.out.1 wr HA2.out.gen)
      have hcb := cnt_b HGN.out.1
      obtain ⟨k, hk⟩ : ∃ k, cnt g = k := ⟨_, rfl⟩
      have HK := Lib.hid hk
      rw [hk] at HKC hcb
      clear hk
      have c0 : wr.cell? ⟨B, 0, none⟩ = some (.int .i64 gK) := HA2.out.dsk.cell 0
      have c1 : wr.cell? ⟨B, 1, none⟩ = some (.int .i64 xa) := HA2.out.dsk.cell 1
      have c2 : wr.cell? ⟨B, 2, none⟩ = some (.int .i64 gb) := HA2.out.dsk.cell 2
      have c3 : wr.cell? ⟨B, 3, none⟩ = some (.slice gao gn gc) := HA2.out.dsk.cell 3
      have c4 : wr.cell? ⟨B, 4, none⟩ = some (.int .i64 n) := HA2.out.dsk.cell 4
      go_wp2_with fail
      refine HKC.out.mono ?_
      clear HKC
      rintro e w4 ⟨rfl, hb4⟩
      have HA4 := Lib.hid (HA2.out.on hb4)
      have n0' := (hb4.cell (World.block_lt_of_cell? wr _ n0)).trans n0
      clear hb4 c0 c1 c2 c3 c4 n0
      have c0 : w4.cell? ⟨B, 0, none⟩ = some (.int .i64 gK) := HA4.out.dsk.cell 0
      have c1 : w4.cell? ⟨B, 1, none⟩ = some (.int .i64 xa) := HA4.out.dsk.cell 1
      have c2 : w4.cell? ⟨B, 2, none⟩ = some (.int .i64 gb) := HA4.out.dsk.cell 2
      have c3 : w4.cell? ⟨B, 3, none⟩ = some (.slice gao gn gc) := HA4.out.dsk.cell 3
      have c4 : w4.cell? ⟨B, 4, none⟩ = some (.int .i64 n) := HA4.out.dsk.cell 4
      by_cases hbig : 1048576 < k
      · have d1 : decide (1048576 < k) = true := decide_eq_true hbig
        have HP := Lib.hid (show lineR (g, n) s = ([69, 114, 114, 70, 117, 108, 108], (g, n)) by rw [HR.out]; unfold nthF; rw [HV0.out]; simp only; rw [show nthR g za = .error 4 by unfold nthR; rw [if_pos (by rw [HK.out]; exact hbig)]]; rfl)
        have r0 : w4.cell? ⟨B + 1, 0, none⟩ = some (.int .i64 0) := HA4.out.res.cell 0
        have r1 : w4.cell? ⟨B + 1, 1, none⟩ = some (.int .i64 0) := HA4.out.res.cell 1
        have r2 : w4.cell? ⟨B + 1, 2, none⟩ = some (.int .i64 0) := HA4.out.res.cell 2
        have r3 : w4.cell? ⟨B + 1, 3, none⟩ = some (.slice none 0 0) := HA4.out.res.cell 3
        have r4 : w4.cell? ⟨B + 1, 4, none⟩ = some (.int .i64 0) := HA4.out.res.cell 4
        have rf0 : w4.frozen? ⟨B + 1, 0, none⟩ = false := HA4.out.res.froz 0
        have rf1 : w4.frozen? ⟨B + 1, 1, none⟩ = false := HA4.out.res.froz 1
        have rf2 : w4.frozen? ⟨B + 1, 2, none⟩ = false := HA4.out.res.froz 2
        have rf3 : w4.frozen? ⟨B + 1, 3, none⟩ = false := HA4.out.res.froz 3
        have rf4 : w4.frozen? ⟨B + 1, 4, none⟩ = false := HA4.out.res.froz 4
        go_wp2_with fail
        refine bodyPost_ret (v := .tuple #[.agg #[.int .i64 gK, .int .i64 xa, .int .i64 gb, .slice gao gn gc, .int .i64 n], str ([69, 114, 114, 70, 117, 108, 108])]) (by simp [results, Tryz.results8, go_sem, r0, r1, r2, r3, r4]) rfl ?_
        first | exact HA4.out.told hB HGN.out.1 HGN.out.2 HP.out rfl | exact (HA4.out.told hB HGN.out.1 HGN.out.2 HP.out rfl).drew
      · have d1 : decide (1048576 < k) = false := decide_eq_false hbig
        by_cases hneg : za < 0
        · have d2 : decide (za < 0) = true := decide_eq_true hneg
          have HP := Lib.hid (show lineR (g, n) s = ([69, 114, 114, 82, 97, 110, 103, 101], (g, n)) by rw [HR.out]; unfold nthF; rw [HV0.out]; simp only; rw [show nthR g za = .error 1 by unfold nthR; rw [if_neg (by rw [HK.out]; exact hbig), if_pos (.inl hneg)]]; rfl)
          have r0 : w4.cell? ⟨B + 1, 0, none⟩ = some (.int .i64 0) := HA4.out.res.cell 0
          have r1 : w4.cell? ⟨B + 1, 1, none⟩ = some (.int .i64 0) := HA4.out.res.cell 1
          have r2 : w4.cell? ⟨B + 1, 2, none⟩ = some (.int .i64 0) := HA4.out.res.cell 2
          have r3 : w4.cell? ⟨B + 1, 3, none⟩ = some (.slice none 0 0) := HA4.out.res.cell 3
          have r4 : w4.cell? ⟨B + 1, 4, none⟩ = some (.int .i64 0) := HA4.out.res.cell 4
          have rf0 : w4.frozen? ⟨B + 1, 0, none⟩ = false := HA4.out.res.froz 0
          have rf1 : w4.frozen? ⟨B + 1, 1, none⟩ = false := HA4.out.res.froz 1
          have rf2 : w4.frozen? ⟨B + 1, 2, none⟩ = false := HA4.out.res.froz 2
          have rf3 : w4.frozen? ⟨B + 1, 3, none⟩ = false := HA4.out.res.froz 3
          have rf4 : w4.frozen? ⟨B + 1, 4, none⟩ = false := HA4.out.res.froz 4
          go_wp2_with fail
          refine bodyPost_ret (v := .tuple #[.agg #[.int .i64 gK, .int .i64 xa, .int .i64 gb, .slice gao gn gc, .int .i64 n], str ([69, 114, 114, 82, 97, 110, 103, 101])]) (by simp [results, Tryz.results8, go_sem, r0, r1, r2, r3, r4]) rfl ?_
          first | exact HA4.out.told hB HGN.out.1 HGN.out.2 HP.out rfl | exact (HA4.out.told hB HGN.out.1 HGN.out.2 HP.out rfl).drew
        · have d2 : decide (za < 0) = false := decide_eq_false hneg
          by_cases hge2 : k ≤ za
          · have d3 : decide (k ≤ za) = true := decide_eq_true hge2
            have HP := Lib.hid (show lineR (g, n) s = ([69, 114, 114, 82, 97, 110, 103, 101], (g, n)) by rw [HR.out]; unfold nthF; rw [HV0.out]; simp only; rw [show nthR g za = .error 1 by unfold nthR; rw [if_neg (by rw [HK.out]; exact hbig), if_pos (.inr (by rw [HK.out]; exact hge2))]]; rfl)
            have r0 : w4.cell? ⟨B + 1, 0, none⟩ = some (.int .i64 0) := HA4.out.res.cell 0
            have r1 : w4.cell? ⟨B + 1, 1, none⟩ = some (.int .i64 0) := HA4.out.res.cell 1
            have r2 : w4.cell? ⟨B + 1, 2, none⟩ = some (.int .i64 0) := HA4.out.res.cell 2
            have r3 : w4.cell? ⟨B + 1, 3, none⟩ = some (.slice none 0 0) := HA4.out.res.cell 3
            have r4 : w4.cell? ⟨B + 1, 4, none⟩ = some (.int .i64 0) := HA4.out.res.cell 4
            have rf0 : w4.frozen? ⟨B + 1, 0, none⟩ = false := HA4.out.res.froz 0
            have rf1 : w4.frozen? ⟨B + 1, 1, none⟩ = false := HA4.out.res.froz 1
            have rf2 : w4.frozen? ⟨B + 1, 2, none⟩ = false := HA4.out.res.froz 2
            have rf3 : w4.frozen? ⟨B + 1, 3, none⟩ = false := HA4.out.res.froz 3
            have rf4 : w4.frozen? ⟨B + 1, 4, none⟩ = false := HA4.out.res.froz 4
            go_wp2_with fail
            refine bodyPost_ret (v := .tuple #[.agg #[.int .i64 gK, .int .i64 xa, .int .i64 gb, .slice gao gn gc, .int .i64 n], str ([69, 114, 114, 82, 97, 110, 103, 101])]) (by simp [results, Tryz.results8, go_sem, r0, r1, r2, r3, r4]) rfl ?_
            first | exact HA4.out.told hB HGN.out.1 HGN.out.2 HP.out rfl | exact (HA4.out.told hB HGN.out.1 HGN.out.2 HP.out rfl).drew
          · have d3 : decide (k ≤ za) = false := decide_eq_false hge2
            have hnr : nthR g za = .ok (nth g za) := by unfold nthR; rw [if_neg (by rw [HK.out]; exact hbig), if_neg (by rw [HK.out]; omega)]
            have HOK := Lib.hid (nthR_ok HGN.out.1 hnr)
            have HP := Lib.hid (show lineR (g, n) s = (ttext (nth g za), (g, n)) by rw [HR.out]; unfold nthF; rw [HV0.out]; simp only; rw [show nthR g za = .ok (nth g za) by exact hnr]; rfl)
            have HNT := Lib.hid (NthTape_any g (.agg #[.int .i64 gK, .int .i64 xa, .int .i64 gb, .slice gao gn gc]) HGN.out.1 za (by omega) (by rw [HK.out]; omega) (by rw [HK.out]; omega) w4.drew (show GenAt w4 _ g from HA4.out.gen))
            have HTT := Lib.hid (fun (ao : Option Addr) (c : Nat) (W : World) h => TapeText_any (nth g za) ao c (by have := HOK.out.1; omega) HOK.out.2 W h)
            obtain ⟨ln, hln⟩ : ∃ ln, (nth g za).length = ln := ⟨_, rfl⟩
            have HLN := Lib.hid hln
            rw [hln] at HTT
            clear hnr hln
            have HSK := Lib.hid (show ∀ w' : World, Below w4.heap.size w4 w' → (w'.cell? ⟨B, 0, none⟩ = some (.int .i64 gK) ∧ w'.cell? ⟨B, 1, none⟩ = some (.int .i64 xa) ∧ w'.cell? ⟨B, 2, none⟩ = some (.int .i64 gb) ∧ w'.cell? ⟨B, 3, none⟩ = some (.slice gao gn gc) ∧ w'.cell? ⟨B, 4, none⟩ = some (.int .i64 n) ∧ w'.cell? ⟨nb, 0, none⟩ = some (.int .i64 za)) from fun w' hb => ⟨(HA4.out.dsk.below hb).cell 0, (HA4.out.dsk.below hb).cell 1, (HA4.out.dsk.below hb).cell 2, (HA4.out.dsk.below hb).cell 3, (HA4.out.dsk.below hb).cell 4, (hb.cell (World.block_lt_of_cell? w4 _ n0')).trans n0'⟩)
            go_wp2_with fail
            refine wp_region_held_drew (S := fun w' => w'.cell? ⟨B, 0, none⟩ = some (.int .i64 gK) ∧ w'.cell? ⟨B, 1, none⟩ = some (.int .i64 xa) ∧ w'.cell? ⟨B, 2, none⟩ = some (.int .i64 gb) ∧ w'.cell? ⟨B, 3, none⟩ = some (.slice gao gn gc) ∧ w'.cell? ⟨B, 4, none⟩ = some (.int .i64 n) ∧ w'.cell? ⟨nb, 0, none⟩ = some (.int .i64 za)) (by kernel_rfl) ?hSR1_0 (fun hHeld => ?_)
            case hSR1_0 =>
              exact HSK.out _ ((Below.refl _ _).drew)
            refine wpAnyH_take (i := 0) (v := ?vvR1_0) rfl (by kernel_rfl) (by kernel_rfl) (by kernel_rfl) (fun _ _ _ h => h) (Or.inl ⟨by rfl, ?hyR1_0⟩) (by assumption) ?restR1_0
            case hyR1_0 => ((intro w hSw; (try dsimp only at hSw); go_simp) <;> with_reducible rfl)
            try simp only [sA, sC, Act.put, sD, sE, sF]
            refine wpAnyH_take (i := 1) (v := ?vvR1_1) rfl (by kernel_rfl) (by kernel_rfl) (by kernel_rfl) (fun _ _ _ h => h) (Or.inl ⟨by rfl, ?hyR1_1⟩) (by assumption) ?restR1_1
            case hyR1_1 => ((intro w hSw; (try dsimp only at hSw); go_simp) <;> with_reducible rfl)
            try simp only [sA, sB, sC, Act.put, sD, sE, sF]
            refine wpAnyH_take (i := 2) (v := ?vvR1_2) rfl (by kernel_rfl) (by kernel_rfl) (by kernel_rfl) (fun _ _ _ h => h) (Or.inl ⟨by rfl, ?hyR1_2⟩) (by assumption) ?restR1_2
            case hyR1_2 => ((intro w hSw; (try dsimp only at hSw); go_simp) <;> with_reducible rfl)
            try simp only [sA, sB, sC, Act.put, sD, sE, sF]
            refine wpAnyH_take (i := 3) (v := ?vvR1_3) rfl (by kernel_rfl) (by kernel_rfl) (by kernel_rfl) (fun _ _ _ h => h) (Or.inl ⟨by rfl, ?hyR1_3⟩) (by assumption) ?restR1_3
            case hyR1_3 => ((intro w hSw; (try dsimp only at hSw); go_simp) <;> with_reducible rfl)
            try simp only [sA, sB, sC, Act.put, sD, sE, sF]
            refine wpAnyH_take (i := 4) (v := ?vvR1_4) rfl (by kernel_rfl) (by kernel_rfl) (by kernel_rfl) (fun _ _ _ h => h) (Or.inl ⟨by rfl, ?hyR1_4⟩) (by assumption) ?restR1_4
            case hyR1_4 => ((intro w hSw; (try dsimp only at hSw); go_simp) <;> with_reducible rfl)
            try simp only [sA, sB, sC, Act.put, sD, sE, sF]
            refine wpAnyH_take (i := 5) (v := ?vvR1_5) rfl (by kernel_rfl) (by kernel_rfl) (by kernel_rfl) (fun _ _ _ h => h) (Or.inl ⟨by rfl, ?hyR1_5⟩) (by assumption) ?restR1_5
            case hyR1_5 => ((intro w hSw; (try dsimp only at hSw); go_simp) <;> with_reducible rfl)
            try simp only [sA, sB, sC, Act.put, sD, sE, sF]
            refine wpAnyH_ready (rs := [6]) (by kernel_rfl) (by simp) ?_
            refine AllReadyH.cons rfl (fun K hK => ?_) AllReadyH.nil
            go_simp
            go_at_call 23
            refine (HNT.out).mono ?_
            rintro e w5 ⟨⟨ao, ac, rfl, hia⟩, hb5⟩
            have hb5' : Below w4.heap.size w4 w5 := ((Below.refl _ w4).drew).trans hb5
            have HB5 := Lib.hid hb5'
            have HT5 := Lib.hid (HTT.out ao ac w5 hia)
            rw [HLN.out]
            clear hb5 hb5' hia
            refine hK.out _ _ ?hSR1_6 (fun hHeld => ?_)
            case hSR1_6 => exact HSK.out _ HB5.out
            clear hK K
            try simp only [sA, sB, sC, Act.put, sD, sE, sF]
            refine wpAnyH_ready (rs := [7]) (by kernel_rfl) (by simp) ?_
            refine AllReadyH.cons rfl (fun K hK => ?_) AllReadyH.nil
            go_simp
            go_at_call 22
            refine (HT5.out).mono ?_
            rintro e w6 ⟨rfl, hb6⟩
            have HB6 := Lib.hid (HB5.out.trans (hb6.mono HB5.out.size))
            have HA6 := Lib.hid (HA4.out.on HB6.out)
            clear hb6
            have r0 : w6.cell? ⟨B + 1, 0, none⟩ = some (.int .i64 0) := HA6.out.res.cell 0
            have r1 : w6.cell? ⟨B + 1, 1, none⟩ = some (.int .i64 0) := HA6.out.res.cell 1
            have r2 : w6.cell? ⟨B + 1, 2, none⟩ = some (.int .i64 0) := HA6.out.res.cell 2
            have r3 : w6.cell? ⟨B + 1, 3, none⟩ = some (.slice none 0 0) := HA6.out.res.cell 3
            have r4 : w6.cell? ⟨B + 1, 4, none⟩ = some (.int .i64 0) := HA6.out.res.cell 4
            have rf0 : w6.frozen? ⟨B + 1, 0, none⟩ = false := HA6.out.res.froz 0
            have rf1 : w6.frozen? ⟨B + 1, 1, none⟩ = false := HA6.out.res.froz 1
            have rf2 : w6.frozen? ⟨B + 1, 2, none⟩ = false := HA6.out.res.froz 2
            have rf3 : w6.frozen? ⟨B + 1, 3, none⟩ = false := HA6.out.res.froz 3
            have rf4 : w6.frozen? ⟨B + 1, 4, none⟩ = false := HA6.out.res.froz 4
            refine hK.out _ _ ?hSR1_7 (fun hHeld => ?_)
            case hSR1_7 => exact HSK.out _ HB6.out
            clear hK K
            try simp only [sA, sB, sC, Act.put, sD, sE, sF]
            refine wpAnyH_ready (rs := [8]) (by kernel_rfl) (by simp) ?_
            refine AllReadyH.cons rfl (fun K hK => ?_) AllReadyH.nil
            go_simp
            refine hK.out _ _ ?hSR1_8 (fun hHeld => ?_)
            case hSR1_8 => go_keep
            clear hK K
            try simp only [sA, sB, sC, Act.put, sD, sE, sF]
            refine wpAnyH_take (i := 9) (v := ?vvR1_9) rfl (by kernel_rfl) (by kernel_rfl) (by kernel_rfl) (fun _ _ _ h => h) (Or.inl ⟨by rfl, ?hyR1_9⟩) (by assumption) ?restR1_9
            case hyR1_9 => ((intro w hSw; (try dsimp only at hSw); go_simp) <;> with_reducible rfl)
            try simp only [sA, sB, sC, Act.put, sD, sE, sF]
            refine wpAnyH_done (by kernel_rfl) ?_ _
            go_wp2_with fail
            refine bodyPost_ret (v := .tuple #[.agg #[.int .i64 gK, .int .i64 xa, .int .i64 gb, .slice gao gn gc, .int .i64 n], str (ttext (nth g za))]) (by simp [results, Tryz.results8, go_sem, r0, r1, r2, r3, r4]) rfl ?_
            first | exact HA6.out.told hB HGN.out.1 HGN.out.2 HP.out rfl | exact (HA6.out.told hB HGN.out.1 HGN.out.2 HP.out rfl).drew
end Go.Proofs.YtalbllijahiiiaaGreatDoor
