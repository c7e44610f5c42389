/- assayerref2.Answered: run. -/
import Derived.Test.YtalbllijahiiiaaGreatDoorDkBJ
import Derived.Deep.RegionHeld
namespace Go.Proofs.YtalbllijahiiiaaGreatDoor
open Go.RowKit Go.Mine Go.Mine.Desk

set_option maxRecDepth 100000 in
set_option maxHeartbeats 4000000 in
theorem ans_run (g : G) (n : Int) (hg : g.right) (hn : near n) (gK xa gb : Int) (gao : Option Addr) (gn gc : Nat) (s : Bytes) (hs : s.length ≤ 1100000) (x0 x y : Bytes) (hw : cuts 32 s = [x0, x, y]) (hx0 : x0 = kRun) (hne : s ≠ kCount) (hall : ∀ p ∈ [x, y], wordV p ≠ none) (w : World) (hv : GenAt w (.agg #[.int .i64 gK, .int .i64 xa, .int .i64 gb, .slice gao gn gc]) g) :
    Calls Tryz.prog 8 #[.agg #[.int .i64 gK, .int .i64 xa, .int .i64 gb, .slice gao gn gc, .int .i64 n], str s] w (AnsPost (lineR (g, n) s) w) := by
  have hsc : (s == [99, 111, 117, 110, 116]) = false := beq_eq_false_iff_ne.2 hne
  obtain ⟨w0, hw0⟩ : ∃ w0, w0 = (w.alloc (.cells #[.int .i64 gK, .int .i64 xa, .int .i64 gb, .slice gao gn gc, .int .i64 n] 30)).alloc (.cells #[.int .i64 0, .int .i64 0, .int .i64 0, .slice none 0 0, .int .i64 0] 30) := ⟨_, rfl⟩
  obtain ⟨B, hB⟩ : ∃ B, w.heap.size = B := ⟨_, rfl⟩
  have HA0 := Lib.hid (AN.start hB hv hw0)
  have HC := Lib.hid (show Calls Tryz.prog 7 #[str s, .int .u8 32] w0 (fun e w' => (∃ v, e = .returned v ∧ w'.ownsRow w0.heap.size 9 1 v (cuts 32 s).length ((cuts 32 s).map str)) ∧ Below w0.heap.size w0 w') from by
    have h := Cut_any s 32 hs w0
    rw [show (((32 : UInt8).toNat : Nat) : Int) = 32 from rfl] at h
    exact h)
  have HW := Lib.hid hw0
  have HGN := Lib.hid (And.intro hg hn)
  clear hw0 hv hg hn
  have bInt : (x0 == [105, 110, 116]) = false := by rw [hx0]; rfl
  have bMany : (x0 == [109, 97, 110, 121]) = false := by rw [hx0]; rfl
  have bLimit : (x0 == [108, 105, 109, 105, 116]) = false := by rw [hx0]; rfl
  have bNth : (x0 == [110, 116, 104]) = false := by rw [hx0]; rfl
  have bRun : (x0 == [114, 117, 110]) = true := by rw [hx0]; rfl
  have HR := Lib.hid (show lineR (g, n) s = lineOut (g, n) (runF2 (g, n) x y) by unfold lineR; rw [hw, hx0]; rfl)
  have hN : [x, y].length + 1 = 3 := rfl
  have HALL := Lib.hid hall
  clear hall hx0
  rw [hw] at HC
  have HN := Lib.hid hN
  rw [List.length_cons, hN] at HC
  clear hne hw hs
  go_enter Tryz.func8, Tryz.ntmps8
  go_upto_region 1 with fail
  rw [← HW.out]
  go_wp2_with fail
  refine HC.out.mono ?_
  clear HC
  rintro e w1 ⟨⟨v, rfl, hown⟩, hb1⟩
  obtain ⟨ro, rc, rfl⟩ := owns_shape hown
  have HA1 := Lib.hid (HA0.out.on hb1)
  obtain ⟨q, rfl⟩ : ∃ q, ro = some ⟨q, 0, none⟩ := by
    rcases hown.2 with ⟨_, h0⟩ | ⟨q, cap, cur, h1, _⟩
    · omega
    · simp only [Value.slice.injEq] at h1
      exact ⟨q, h1.1⟩
  have HCW := Lib.hid (show ∀ W, Below w1.heap.size w1 W → ∀ j, j < 3 → W.cell? ⟨q, j, none⟩ = some (str ((x0 :: [x, y]).getD j [])) from fun W hb j hj => by
    have hj' : j < (x0 :: [x, y]).length := by rw [List.length_cons]; omega
    rw [hb.cell (hown.lt q rfl).2, hown.cellAt j (by omega)]
    simp only [List.getElem?_map, List.getD, List.getElem?_eq_getElem hj', Option.map_some, Option.getD_some])
  have h0 : w1.cell? ⟨q, 0, none⟩ = some (str x0) := HCW.out w1 (Below.refl _ _) 0 (by omega)
  obtain ⟨Q, hQ⟩ : ∃ Q, w1.heap.size = Q := ⟨_, rfl⟩
  have HL0 := Lib.hid (show LN w1 w1 Q [x, y] 1 [] (.slice none 0 0) from ⟨Below.refl _ _, World.ownsRow_nil _ _ _ _, rfl, fun j hj => by simp at hj, by omega⟩)
  have hQB : B + 1 + 1 ≤ Q := by rw [← hQ]; exact HA1.out.res.lt
  have HQ := Lib.hid hQ
  obtain ⟨i1, hj1, hy0, hy1, hy2⟩ := info_parts infoI3d
  clear hown hb1 hQ hN
  go_wp2_with fail
  go_loopw [12, 13, 14, 15] (fun nv iv _ _ wr => ∃ (i : Nat) (zs : List Int), iv = .int .i64 (i : Int) ∧ 1 ≤ i ∧ i ≤ 3 ∧ RowKit.Hid (LN w1 wr Q [x, y] i zs nv)) (fun _ iv _ _ _ => 3 - (intOf iv).toNat)
  case atStart => exact ⟨1, [], rfl, by omega, by omega, HL0⟩
  case round =>
    obtain ⟨i, zs, rfl, hi1', hiN, HJ⟩ := hrel
    have HA2 := Lib.hid (HA1.out.on HJ.out.below)
    rcases Nat.lt_or_ge i 3 with hlt | hge
    · have hcell := HCW.out wr HJ.out.below i hlt
      obtain ⟨p, hp⟩ : ∃ p, p = [x, y].getD (i - 1) [] := ⟨_, rfl⟩
      have hpe : (x0 :: [x, y]).getD i [] = p := by
        obtain ⟨j, rfl⟩ : ∃ j, i = j + 1 := ⟨i - 1, by omega⟩
        rw [hp]; rfl
      have hmem : p ∈ [x, y] := by
        have hl : i - 1 < [x, y].length := by have := HN.out; omega
        rw [hp, List.getD, List.getElem?_eq_getElem hl]
        exact List.getElem_mem hl
      rw [hpe] at hcell
      have HPP := Lib.hid (And.intro hp hmem)
      have hj0 : (0 : Int) ≤ (i : Int) := by omega
      have hj1' : (i : Int) < (3 : Int) := by omega
      have hw1 : IntKind.i64.wrap ((i : Int) + 1) = ((i + 1 : Nat) : Int) := by rw [IntWalk.i64_in _ (by omega)]; omega
      have HNW := Lib.hid (num_walk p wr)
      clear hp hpe hmem
      go_wp2_with fail
      refine HNW.out.mono ?_
      clear HNW hcell
      rintro e w3 ⟨⟨z, bb, rfl, h64, hnum⟩, hb3⟩
      have HA3 := Lib.hid (HA2.out.on hb3)
      have HNM := Lib.hid hnum
      have HLN3 := Lib.hid (show LN w1 w3 Q [x, y] i zs _ from ⟨HJ.out.below.trans (hb3.mono HJ.out.below.size), owns_below HJ.out.row hb3, HJ.out.len, HJ.out.all, Nat.le_trans HJ.out.size hb3.size⟩)
      have hzb : zs.length + 1 ≤ 3 := by have := HJ.out.len; omega
      have hsz3 := HLN3.out.size
      unfold i64ok at h64
      clear hnum hb3
      cases bb with
      | false =>
        exact absurd (word_none1 (HNM.out.2 rfl)) (HALL.out p HPP.out.2)
      | true =>
        by_cases z1 : z < -1073741824
        · have d1 : decide (z < -1073741824) = true := decide_eq_true z1
          exact absurd (word_none2 (HNM.out.1 rfl) (.inl z1)) (HALL.out p HPP.out.2)
        · have d1 : decide (z < -1073741824) = false := decide_eq_false z1
          by_cases z2 : 1073741824 < z
          · have d2 : decide (1073741824 < z) = true := decide_eq_true z2
            exact absurd (word_none2 (HNM.out.1 rfl) (.inr z2)) (HALL.out p HPP.out.2)
          · have d2 : decide (1073741824 < z) = false := decide_eq_false z2
            have HWV := Lib.hid (word_some (HNM.out.1 rfl) z1 z2)
            go_wp2_with (at_builtin; refine wpList_push2 _ rfl _ _ 48 rfl Q 3 i1 (.int .i64 0) 1 8 Tryz.underlying48 hj1 hy0 hy1 hy2 rfl (by decide) _ _ _ rfl (HLN3.out.row.alloc _) ⟨w3.heap.size, 0, none⟩ 1 [.int .i64 z] rfl rfl (World.news_of_block (cs := #[.int .i64 z]) (t := 3) (fr := (0, 0)) (heap_alloc_at _ _ rfl)) (one1 _ _) (by unfold maxLen; omega) (by omega) (by simp; omega) ?_)
            intro gq cap w7 hown hgr hat7
            have HJ7 := Lib.hid (show LN w1 w7 Q [x, y] (i + 1) (zs ++ [z]) (.slice (some ⟨gq, 0, none⟩) (zs.length + 1) cap) from by
              refine ⟨(HLN3.out.below.alloc HLN3.out.below.size (.cells #[.int .i64 z] 3)).grown hgr (by have := HLN3.out.below.size; simp; omega) (fun k hk => by have := (HLN3.out.row.lt k hk).1; have := HQ.out; omega), by rw [List.length_append, List.map_append]; exact hown, by rw [List.length_append]; have := HJ.out.len; simp; omega, fun j hj => ?_, by have := hgr.size; simp at this; omega⟩
              rw [List.length_append] at hj
              rcases Nat.lt_or_ge j zs.length with h | h
              · rw [HJ.out.all j h]
                simp [List.getD, List.getElem?_append_left h]
              · have hjz : j = zs.length := by simp at hj; omega
                subst hjz
                have hi : i - 1 = zs.length := by have := HJ.out.len; omega
                rw [← hi, ← HPP.out.1, HWV.out, hi]
                simp [List.getD])
            clear hown hgr hat7
            go_wp2_with fail
            go_roundw
            case rel => exact ⟨i + 1, zs ++ [z], by go_num, by omega, by omega, HJ7⟩
            case measure => simp [intOf]; omega
    · have hiN' : i = 3 := by omega
      subst hiN'
      have h0' : wr.cell? ⟨q, 0, none⟩ = some (str x0) := HCW.out wr HJ.out.below 0 (by omega)
      obtain ⟨za, zb, rfl⟩ : ∃ za zb, zs = [za, zb] := by
        have h := HJ.out.len
        match zs, h with
        | [za, zb], _ => exact ⟨za, zb, rfl⟩
      obtain ⟨no, nc, rfl⟩ := owns_shape HJ.out.row
      obtain ⟨nb, rfl⟩ : ∃ nb, no = some ⟨nb, 0, none⟩ := by
        rcases HJ.out.row.2 with ⟨_, h0⟩ | ⟨g1, cap, cur, h1, _⟩
        · simp at h0
        · simp only [Value.slice.injEq] at h1
          exact ⟨g1, h1.1⟩
      have hnb := (HJ.out.row.lt nb rfl).1
      have hnb1 : nb ≠ B + 1 := by omega
      have hnb2 : B + 1 ≠ nb := by omega
      have n0 : wr.cell? ⟨nb, 0, none⟩ = some (.int .i64 za) := HJ.out.row.cellAt 0 (by simp)
      have HV0 := Lib.hid (show wordV x = some za from HJ.out.all 0 (by simp))
      have n1 : wr.cell? ⟨nb, 1, none⟩ = some (.int .i64 zb) := HJ.out.row.cellAt 1 (by simp)
      have HV1 := Lib.hid (show wordV y = some zb from HJ.out.all 1 (by simp))
      have c0 : wr.cell? ⟨B, 0, none⟩ = some (.int .i64 gK) := HA2.out.dsk.cell 0
      have c1 : wr.cell? ⟨B, 1, none⟩ = some (.int .i64 xa) := HA2.out.dsk.cell 1
      have c2 : wr.cell? ⟨B, 2, none⟩ = some (.int .i64 gb) := HA2.out.dsk.cell 2
      have c3 : wr.cell? ⟨B, 3, none⟩ = some (.slice gao gn gc) := HA2.out.dsk.cell 3
      have c4 : wr.cell? ⟨B, 4, none⟩ = some (.int .i64 n) := HA2.out.dsk.cell 4
      by_cases hneg : zb < 0
      · have d2 : decide (zb < 0) = true := decide_eq_true hneg
        have HP := Lib.hid (show lineR (g, n) s = ([69, 114, 114, 82, 97, 110, 103, 101], (g, n)) by rw [HR.out]; unfold runF2; rw [HV0.out, HV1.out]; simp only; unfold runText; rw [show runR g n za zb = .error 1 by unfold runR; rw [if_pos (.inl hneg)]]; rfl)
        have r0 : wr.cell? ⟨B + 1, 0, none⟩ = some (.int .i64 0) := HA2.out.res.cell 0
        have r1 : wr.cell? ⟨B + 1, 1, none⟩ = some (.int .i64 0) := HA2.out.res.cell 1
        have r2 : wr.cell? ⟨B + 1, 2, none⟩ = some (.int .i64 0) := HA2.out.res.cell 2
        have r3 : wr.cell? ⟨B + 1, 3, none⟩ = some (.slice none 0 0) := HA2.out.res.cell 3
        have r4 : wr.cell? ⟨B + 1, 4, none⟩ = some (.int .i64 0) := HA2.out.res.cell 4
        have rf0 : wr.frozen? ⟨B + 1, 0, none⟩ = false := HA2.out.res.froz 0
        have rf1 : wr.frozen? ⟨B + 1, 1, none⟩ = false := HA2.out.res.froz 1
        have rf2 : wr.frozen? ⟨B + 1, 2, none⟩ = false := HA2.out.res.froz 2
        have rf3 : wr.frozen? ⟨B + 1, 3, none⟩ = false := HA2.out.res.froz 3
        have rf4 : wr.frozen? ⟨B + 1, 4, none⟩ = false := HA2.out.res.froz 4
        go_wp2_with fail
        refine bodyPost_ret (v := .tuple #[.agg #[.int .i64 gK, .int .i64 xa, .int .i64 gb, .slice gao gn gc, .int .i64 n], str ([69, 114, 114, 82, 97, 110, 103, 101])]) (by simp [results, Tryz.results8, go_sem, r0, r1, r2, r3, r4]) rfl ?_
        first | exact HA2.out.told hB HGN.out.1 HGN.out.2 HP.out rfl | exact (HA2.out.told hB HGN.out.1 HGN.out.2 HP.out rfl).drew
      · have d2 : decide (zb < 0) = false := decide_eq_false hneg
        by_cases hbig : 50 < zb
        · have d3 : decide (50 < zb) = true := decide_eq_true hbig
          have HP := Lib.hid (show lineR (g, n) s = ([69, 114, 114, 82, 97, 110, 103, 101], (g, n)) by rw [HR.out]; unfold runF2; rw [HV0.out, HV1.out]; simp only; unfold runText; rw [show runR g n za zb = .error 1 by unfold runR; rw [if_pos (.inr hbig)]]; rfl)
          have r0 : wr.cell? ⟨B + 1, 0, none⟩ = some (.int .i64 0) := HA2.out.res.cell 0
          have r1 : wr.cell? ⟨B + 1, 1, none⟩ = some (.int .i64 0) := HA2.out.res.cell 1
          have r2 : wr.cell? ⟨B + 1, 2, none⟩ = some (.int .i64 0) := HA2.out.res.cell 2
          have r3 : wr.cell? ⟨B + 1, 3, none⟩ = some (.slice none 0 0) := HA2.out.res.cell 3
          have r4 : wr.cell? ⟨B + 1, 4, none⟩ = some (.int .i64 0) := HA2.out.res.cell 4
          have rf0 : wr.frozen? ⟨B + 1, 0, none⟩ = false := HA2.out.res.froz 0
          have rf1 : wr.frozen? ⟨B + 1, 1, none⟩ = false := HA2.out.res.froz 1
          have rf2 : wr.frozen? ⟨B + 1, 2, none⟩ = false := HA2.out.res.froz 2
          have rf3 : wr.frozen? ⟨B + 1, 3, none⟩ = false := HA2.out.res.froz 3
          have rf4 : wr.frozen? ⟨B + 1, 4, none⟩ = false := HA2.out.res.froz 4
          go_wp2_with fail
          refine bodyPost_ret (v := .tuple #[.agg #[.int .i64 gK, .int .i64 xa, .int .i64 gb, .slice gao gn gc, .int .i64 n], str ([69, 114, 114, 82, 97, 110, 103, 101])]) (by simp [results, Tryz.results8, go_sem, r0, r1, r2, r3, r4]) rfl ?_
          first | exact HA2.out.told hB HGN.out.1 HGN.out.2 HP.out rfl | exact (HA2.out.told hB HGN.out.1 HGN.out.2 HP.out rfl).drew
        · have d3 : decide (50 < zb) = false := decide_eq_false hbig
          have HRR := Lib.hid (show runR g n za zb = .ok (runF g n zb.toNat (Seed.new za) 0) by unfold runR; rw [if_neg (by omega)])
          have HEX := Lib.hid (fun W => ExprOf_any n W)
          have HRN := Lib.hid (fun (eb : Nat) (W : World) (he : ExprAt W eb n) (hv : GenAt W (.agg #[.int .i64 gK, .int .i64 xa, .int .i64 gb, .slice gao gn gc]) g) => (RunOf_any g (.agg #[.int .i64 gK, .int .i64 xa, .int .i64 gb, .slice gao gn gc]) HGN.out.1 n eb za zb (by omega) (by omega) W he hv).mono fun _ _ h => h.all)
          simp only [wholeE] at HRN
          have HSK := Lib.hid (show ∀ w' : World, Below wr.heap.size wr w' → (w'.cell? ⟨B, 0, none⟩ = some (.int .i64 gK) ∧ w'.cell? ⟨B, 1, none⟩ = some (.int .i64 xa) ∧ w'.cell? ⟨B, 2, none⟩ = some (.int .i64 gb) ∧ w'.cell? ⟨B, 3, none⟩ = some (.slice gao gn gc) ∧ w'.cell? ⟨B, 4, none⟩ = some (.int .i64 n) ∧ w'.cell? ⟨nb, 0, none⟩ = some (.int .i64 za) ∧ w'.cell? ⟨nb, 1, none⟩ = some (.int .i64 zb)) from fun w' hb => ⟨(HA2.out.dsk.below hb).cell 0, (HA2.out.dsk.below hb).cell 1, (HA2.out.dsk.below hb).cell 2, (HA2.out.dsk.below hb).cell 3, (HA2.out.dsk.below hb).cell 4, (hb.cell (World.block_lt_of_cell? wr _ n0)).trans n0, (hb.cell (World.block_lt_of_cell? wr _ n1)).trans n1⟩)
          go_upto_region 42 with fail
          go_cut [17] from 224 to 236 (fun qv wx => ∃ (Qr : Nat) (r : Int) (bb : Bool) (uo : Option Addr) (ul uc : Nat) (kk : Int), qv = .pointer (some ⟨Qr, 0, none⟩) ∧ RowKit.Hid (Below wr.heap.size wr wx ∧ Blk wx Qr 66 #[.int .i64 r, .bool bb, .slice uo ul uc, .int .i64 kk] ∧ i64ok r ∧ RunHow g n za zb r bb uo ul kk wx))
          case first =>
            refine wp_region_held_drew (S := fun w' => w'.cell? ⟨B, 0, none⟩ = some (.int .i64 gK) ∧ w'.cell? ⟨B, 1, none⟩ = some (.int .i64 xa) ∧ w'.cell? ⟨B, 2, none⟩ = some (.int .i64 gb) ∧ w'.cell? ⟨B, 3, none⟩ = some (.slice gao gn gc) ∧ w'.cell? ⟨B, 4, none⟩ = some (.int .i64 n) ∧ w'.cell? ⟨nb, 0, none⟩ = some (.int .i64 za) ∧ w'.cell? ⟨nb, 1, none⟩ = some (.int .i64 zb)) (by kernel_rfl) ?hS0 (fun hHeld => ?_)
            case hS0 =>
              exact HSK.out _ ((Below.refl _ _).drew)
            refine wpAnyH_take (i := 0) (v := ?vv0) rfl (by kernel_rfl) (by kernel_rfl) (by kernel_rfl) (fun _ _ _ h => h) (Or.inl ⟨by rfl, ?hy0⟩) (by assumption) ?rest0
            case hy0 => ((intro w hSw; (try dsimp only at hSw); go_simp) <;> with_reducible rfl)
            try simp only [sA, sC, Act.put, sD, sE, sF]
            refine wpAnyH_take (i := 1) (v := ?vv1) rfl (by kernel_rfl) (by kernel_rfl) (by kernel_rfl) (fun _ _ _ h => h) (Or.inl ⟨by rfl, ?hy1⟩) (by assumption) ?rest1
            case hy1 => ((intro w hSw; (try dsimp only at hSw); go_simp) <;> with_reducible rfl)
            try simp only [sA, sB, sC, Act.put, sD, sE, sF]
            refine wpAnyH_take (i := 2) (v := ?vv2) rfl (by kernel_rfl) (by kernel_rfl) (by kernel_rfl) (fun _ _ _ h => h) (Or.inl ⟨by rfl, ?hy2⟩) (by assumption) ?rest2
            case hy2 => ((intro w hSw; (try dsimp only at hSw); go_simp) <;> with_reducible rfl)
            try simp only [sA, sB, sC, Act.put, sD, sE, sF]
            refine wpAnyH_take (i := 3) (v := ?vv3) rfl (by kernel_rfl) (by kernel_rfl) (by kernel_rfl) (fun _ _ _ h => h) (Or.inl ⟨by rfl, ?hy3⟩) (by assumption) ?rest3
            case hy3 => ((intro w hSw; (try dsimp only at hSw); go_simp) <;> with_reducible rfl)
            try simp only [sA, sB, sC, Act.put, sD, sE, sF]
            refine wpAnyH_take (i := 5) (v := ?vv5) rfl (by kernel_rfl) (by kernel_rfl) (by kernel_rfl) (fun _ _ _ h => h) (Or.inl ⟨by rfl, ?hy5⟩) (by assumption) ?rest5
            case hy5 => ((intro w hSw; (try dsimp only at hSw); go_simp) <;> with_reducible rfl)
            try simp only [sA, sB, sC, Act.put, sD, sE, sF]
            refine wpAnyH_take (i := 6) (v := ?vv6) rfl (by kernel_rfl) (by kernel_rfl) (by kernel_rfl) (fun _ _ _ h => h) (Or.inl ⟨by rfl, ?hy6⟩) (by assumption) ?rest6
            case hy6 => ((intro w hSw; (try dsimp only at hSw); go_simp) <;> with_reducible rfl)
            try simp only [sA, sB, sC, Act.put, sD, sE, sF]
            refine wpAnyH_take (i := 7) (v := ?vv7) rfl (by kernel_rfl) (by kernel_rfl) (by kernel_rfl) (fun _ _ _ h => h) (Or.inl ⟨by rfl, ?hy7⟩) (by assumption) ?rest7
            case hy7 => ((intro w hSw; (try dsimp only at hSw); go_simp) <;> with_reducible rfl)
            try simp only [sA, sB, sC, Act.put, sD, sE, sF]
            refine wpAnyH_take (i := 8) (v := ?vv8) rfl (by kernel_rfl) (by kernel_rfl) (by kernel_rfl) (fun _ _ _ h => h) (Or.inl ⟨by rfl, ?hy8⟩) (by assumption) ?rest8
            case hy8 => ((intro w hSw; (try dsimp only at hSw); go_simp) <;> with_reducible rfl)
            try simp only [sA, sB, sC, Act.put, sD, sE, sF]
            refine wpAnyH_take (i := 9) (v := ?vv9) rfl (by kernel_rfl) (by kernel_rfl) (by kernel_rfl) (fun _ _ _ h => h) (Or.inl ⟨by rfl, ?hy9⟩) (by assumption) ?rest9
            case hy9 => ((intro w hSw; (try dsimp only at hSw); go_simp) <;> with_reducible rfl)
            try simp only [sA, sB, sC, Act.put, sD, sE, sF]
            refine wpAnyH_take (i := 10) (v := ?vv10) rfl (by kernel_rfl) (by kernel_rfl) (by kernel_rfl) (fun _ _ _ h => h) (Or.inl ⟨by rfl, ?hy10⟩) (by assumption) ?rest10
            case hy10 => ((intro w hSw; (try dsimp only at hSw); go_simp) <;> with_reducible rfl)
            try simp only [sA, sB, sC, Act.put, sD, sE, sF]
            refine wpAnyH_ready (rs := [4, 12]) (by kernel_rfl) (by simp) ?_
            refine AllReadyH.cons rfl (fun K hK => ?_) (AllReadyH.cons rfl (fun K hK => ?_) AllReadyH.nil)
            · go_simp
              go_at_call 25
              refine ((HEX.out _)).mono ?_
              rintro e w5 ⟨⟨eb, rfl, heb, hexp⟩, hb5⟩
              have HB5 := Lib.hid (show Below wr.heap.size wr w5 from ((Below.refl _ wr).drew).trans hb5)
              have HR5 := Lib.hid hexp
              try simp only [wholeE]
              clear heb hexp hb5
              refine hK.out _ _ ?hSB7 (fun hHeld => ?_)
              case hSB7 => exact HSK.out _ HB5.out
              clear hK K
              try simp only [sA, sB, sC, Act.put, sD, sE, sF]
              refine wpAnyH_ready (rs := [11, 12]) (by kernel_rfl) (by simp) ?_
              refine AllReadyH.cons rfl (fun K hK => ?_) (AllReadyH.cons rfl (fun K hK => ?_) AllReadyH.nil)
              · go_simp
                go_at_call 24
                refine (HRN.out eb w5 HR5.out (HA2.out.gen.on HB5.out)).mono ?_
                rintro e w6 ⟨hb6, r, bb, uo, ul, uc, kk, rfl, h64r, hhow⟩
                have HB6 := Lib.hid (HB5.out.trans (hb6.mono HB5.out.size))
                clear hb6
                refine hK.out _ _ ?hSB1 (fun hHeld => ?_)
                case hSB1 => exact HSK.out _ HB6.out
                clear hK K
                try simp only [sA, sB, sC, Act.put, sD, sE, sF]
                refine wpAnyH_ready (rs := [12]) (by kernel_rfl) (by simp) ?_
                refine AllReadyH.cons rfl (fun K hK => ?_) AllReadyH.nil
                go_simp
                refine hK.out _ _ ?hSR2_12 (fun hHeld => ?_)
                case hSR2_12 => first | exact HSK.out _ (HB6.out.alloc HB6.out.size _) | go_keep
                clear hK K
                try simp only [sA, sB, sC, Act.put, sD, sE, sF]
                refine wpAnyH_ready (rs := [13]) (by kernel_rfl) (by simp) ?_
                refine AllReadyH.cons rfl (fun K hK => ?_) AllReadyH.nil
                go_simp
                refine hK.out _ _ ?hSR2_13 (fun hHeld => ?_)
                case hSR2_13 => first | exact HSK.out _ (HB6.out.alloc HB6.out.size _) | go_keep
                clear hK K
                try simp only [sA, sB, sC, Act.put, sD, sE, sF]
                refine wpAnyH_done (by kernel_rfl) ?_ _
                have hhow' : RunHow g n za zb r bb uo ul kk (w6.alloc (.cells #[.int .i64 r, .bool bb, .slice uo ul uc, .int .i64 kk] 66)) := hhow.on ((Below.refl _ _).alloc (Nat.le_refl _) _)
                go_wp2_with fail
                go_meet
                case rel => exact ⟨w6.heap.size, r, bb, uo, ul, uc, kk, rfl, Lib.hid ⟨HB6.out.alloc HB6.out.size _, Blk.new _ _ _, h64r, hhow'⟩⟩
              · go_simp
                refine hK.out _ _ ?hSB3 (fun hHeld => ?_)
                case hSB3 => first | exact HSK.out _ (HB5.out.alloc HB5.out.size _) | go_keep
                clear hK K
                try simp only [sA, sB, sC, Act.put, sD, sE, sF]
                refine wpAnyH_ready (rs := [11]) (by kernel_rfl) (by simp) ?_
                refine AllReadyH.cons rfl (fun K hK => ?_) AllReadyH.nil
                go_simp
                go_at_call 24
                refine (HRN.out eb (w5.alloc (.cells #[.int .i64 0, .bool false, .slice none 0 0, .int .i64 0] 66)) ((show Blk w5 eb _ _ from HR5.out).alloc _) (HA2.out.gen.on (HB5.out.alloc HB5.out.size _))).mono ?_
                rintro e w6 ⟨hb6, r, bb, uo, ul, uc, kk, rfl, h64r, hhow⟩
                have HB6 := Lib.hid (show Below wr.heap.size wr w6 from (HB5.out.alloc HB5.out.size _).trans (hb6.mono (HB5.out.alloc HB5.out.size _).size))
                have HKR := Lib.hid (show Blk w6 w5.heap.size 66 #[.int .i64 0, .bool false, .slice none 0 0, .int .i64 0] from (Blk.new w5 66 #[.int .i64 0, .bool false, .slice none 0 0, .int .i64 0]).below hb6)
                have hq5 : wr.heap.size ≤ w5.heap.size := HB5.out.size
                clear hb6
                have u0 : w6.cell? ⟨w5.heap.size, 0, none⟩ = some (.int .i64 0) := HKR.out.cell 0
                have u1 : w6.cell? ⟨w5.heap.size, 1, none⟩ = some (.bool false) := HKR.out.cell 1
                have u2 : w6.cell? ⟨w5.heap.size, 2, none⟩ = some (.slice none 0 0) := HKR.out.cell 2
                have u3 : w6.cell? ⟨w5.heap.size, 3, none⟩ = some (.int .i64 0) := HKR.out.cell 3
                have uf0 : w6.frozen? ⟨w5.heap.size, 0, none⟩ = false := HKR.out.froz 0
                have uf1 : w6.frozen? ⟨w5.heap.size, 1, none⟩ = false := HKR.out.froz 1
                have uf2 : w6.frozen? ⟨w5.heap.size, 2, none⟩ = false := HKR.out.froz 2
                have uf3 : w6.frozen? ⟨w5.heap.size, 3, none⟩ = false := HKR.out.froz 3
                refine hK.out _ _ ?hSR4_11 (fun hHeld => ?_)
                case hSR4_11 => exact HSK.out _ HB6.out
                clear hK K
                try simp only [sA, sB, sC, Act.put, sD, sE, sF]
                refine wpAnyH_ready (rs := [13]) (by kernel_rfl) (by simp) ?_
                refine AllReadyH.cons rfl (fun K hK => ?_) AllReadyH.nil
                go_simp
                refine hK.out _ _ ?hSR4_13 (fun hHeld => ?_)
                case hSR4_13 => exact HSK.out _ (by
                  iterate 4 (refine Below.setCell ?_ (by show wr.heap.size ≤ w5.heap.size; omega) _)
                  exact HB6.out)
                clear hK K
                try simp only [sA, sB, sC, Act.put, sD, sE, sF]
                refine wpAnyH_done (by kernel_rfl) ?_ _
                have hhow' : RunHow g n za zb r bb uo ul kk ((((w6.setCell ⟨w5.heap.size, 0, none⟩ (.int .i64 r)).setCell ⟨w5.heap.size, 1, none⟩ (.bool bb)).setCell ⟨w5.heap.size, 2, none⟩ (.slice uo ul uc)).setCell ⟨w5.heap.size, 3, none⟩ (.int .i64 kk)) := hhow.stored HKR.out (by decide)
                have hfb : Below wr.heap.size wr ((((w6.setCell ⟨w5.heap.size, 0, none⟩ (.int .i64 r)).setCell ⟨w5.heap.size, 1, none⟩ (.bool bb)).setCell ⟨w5.heap.size, 2, none⟩ (.slice uo ul uc)).setCell ⟨w5.heap.size, 3, none⟩ (.int .i64 kk)) := by
                  iterate 4 (refine Below.setCell ?_ (by show wr.heap.size ≤ w5.heap.size; omega) _)
                  exact HB6.out
                have hfk : Blk ((((w6.setCell ⟨w5.heap.size, 0, none⟩ (.int .i64 r)).setCell ⟨w5.heap.size, 1, none⟩ (.bool bb)).setCell ⟨w5.heap.size, 2, none⟩ (.slice uo ul uc)).setCell ⟨w5.heap.size, 3, none⟩ (.int .i64 kk)) (w5.heap.size) 66 #[.int .i64 r, .bool bb, .slice uo ul uc, .int .i64 kk] := by
                  have KR := HKR.out
                  simpa using (((KR.set 0 (.int .i64 r)).set 1 (.bool bb)).set 2 (.slice uo ul uc)).set 3 (.int .i64 kk)
                go_wp2_with fail
                go_meet
                case rel => exact ⟨w5.heap.size, r, bb, uo, ul, uc, kk, rfl, Lib.hid ⟨hfb, hfk, h64r, hhow'⟩⟩
            · go_simp
              refine hK.out _ _ ?hSB5 (fun hHeld => ?_)
              case hSB5 => exact HSK.out _ (by first | exact ((Below.refl _ wr).drew).alloc (Nat.le_refl _) _ | exact ((Below.refl _ wr).alloc (Nat.le_refl _) _).drew)
              clear hK K
              try simp only [sA, sB, sC, Act.put, sD, sE, sF]
              refine wpAnyH_ready (rs := [4]) (by kernel_rfl) (by simp) ?_
              refine AllReadyH.cons rfl (fun K hK => ?_) AllReadyH.nil
              go_simp
              go_at_call 25
              refine ((HEX.out _)).mono ?_
              rintro e w5 ⟨⟨eb, rfl, heb, hexp⟩, hb5⟩
              have HB5 := Lib.hid (show Below wr.heap.size wr w5 from Below.trans (by first | exact ((Below.refl _ wr).drew).alloc (Nat.le_refl _) _ | exact ((Below.refl _ wr).alloc (Nat.le_refl _) _).drew) (hb5.mono (by simp)))
              have HR5 := Lib.hid hexp
              have HK5 := Lib.hid (show Blk w5 wr.heap.size 66 #[.int .i64 0, .bool false, .slice none 0 0, .int .i64 0] from Blk.below (by first | exact Blk.new wr 66 #[.int .i64 0, .bool false, .slice none 0 0, .int .i64 0] | exact (Blk.new wr 66 #[.int .i64 0, .bool false, .slice none 0 0, .int .i64 0]).drew) hb5)
              try simp only [wholeE]
              clear heb hexp hb5
              refine hK.out _ _ ?hSR6_4 (fun hHeld => ?_)
              case hSR6_4 => exact HSK.out _ HB5.out
              clear hK K
              try simp only [sA, sB, sC, Act.put, sD, sE, sF]
              refine wpAnyH_ready (rs := [11]) (by kernel_rfl) (by simp) ?_
              refine AllReadyH.cons rfl (fun K hK => ?_) AllReadyH.nil
              go_simp
              go_at_call 24
              refine (HRN.out eb w5 HR5.out (HA2.out.gen.on HB5.out)).mono ?_
              rintro e w6 ⟨hb6, r, bb, uo, ul, uc, kk, rfl, h64r, hhow⟩
              have HB6 := Lib.hid (HB5.out.trans (hb6.mono HB5.out.size))
              have HKR := Lib.hid (HK5.out.below hb6)
              clear hb6
              have u0 : w6.cell? ⟨wr.heap.size, 0, none⟩ = some (.int .i64 0) := HKR.out.cell 0
              have u1 : w6.cell? ⟨wr.heap.size, 1, none⟩ = some (.bool false) := HKR.out.cell 1
              have u2 : w6.cell? ⟨wr.heap.size, 2, none⟩ = some (.slice none 0 0) := HKR.out.cell 2
              have u3 : w6.cell? ⟨wr.heap.size, 3, none⟩ = some (.int .i64 0) := HKR.out.cell 3
              have uf0 : w6.frozen? ⟨wr.heap.size, 0, none⟩ = false := HKR.out.froz 0
              have uf1 : w6.frozen? ⟨wr.heap.size, 1, none⟩ = false := HKR.out.froz 1
              have uf2 : w6.frozen? ⟨wr.heap.size, 2, none⟩ = false := HKR.out.froz 2
              have uf3 : w6.frozen? ⟨wr.heap.size, 3, none⟩ = false := HKR.out.froz 3
              refine hK.out _ _ ?hSR6_11 (fun hHeld => ?_)
              case hSR6_11 => exact HSK.out _ HB6.out
              clear hK K
              try simp only [sA, sB, sC, Act.put, sD, sE, sF]
              refine wpAnyH_ready (rs := [13]) (by kernel_rfl) (by simp) ?_
              refine AllReadyH.cons rfl (fun K hK => ?_) AllReadyH.nil
              go_simp
              refine hK.out _ _ ?hSR6_13 (fun hHeld => ?_)
              case hSR6_13 => exact HSK.out _ (by
                iterate 4 (refine Below.setCell ?_ (by show wr.heap.size ≤ wr.heap.size; exact Nat.le_refl _) _)
                exact HB6.out)
              clear hK K
              try simp only [sA, sB, sC, Act.put, sD, sE, sF]
              refine wpAnyH_done (by kernel_rfl) ?_ _
              have hhow' : RunHow g n za zb r bb uo ul kk ((((w6.setCell ⟨wr.heap.size, 0, none⟩ (.int .i64 r)).setCell ⟨wr.heap.size, 1, none⟩ (.bool bb)).setCell ⟨wr.heap.size, 2, none⟩ (.slice uo ul uc)).setCell ⟨wr.heap.size, 3, none⟩ (.int .i64 kk)) := hhow.stored HKR.out (by decide)
              have hfb : Below wr.heap.size wr ((((w6.setCell ⟨wr.heap.size, 0, none⟩ (.int .i64 r)).setCell ⟨wr.heap.size, 1, none⟩ (.bool bb)).setCell ⟨wr.heap.size, 2, none⟩ (.slice uo ul uc)).setCell ⟨wr.heap.size, 3, none⟩ (.int .i64 kk)) := by
                iterate 4 (refine Below.setCell ?_ (by show wr.heap.size ≤ wr.heap.size; omega) _)
                exact HB6.out
              have hfk : Blk ((((w6.setCell ⟨wr.heap.size, 0, none⟩ (.int .i64 r)).setCell ⟨wr.heap.size, 1, none⟩ (.bool bb)).setCell ⟨wr.heap.size, 2, none⟩ (.slice uo ul uc)).setCell ⟨wr.heap.size, 3, none⟩ (.int .i64 kk)) (wr.heap.size) 66 #[.int .i64 r, .bool bb, .slice uo ul uc, .int .i64 kk] := by
                have KR := HKR.out
                simpa using (((KR.set 0 (.int .i64 r)).set 1 (.bool bb)).set 2 (.slice uo ul uc)).set 3 (.int .i64 kk)
              go_wp2_with fail
              go_meet
              case rel => exact ⟨wr.heap.size, r, bb, uo, ul, uc, kk, rfl, Lib.hid ⟨hfb, hfk, h64r, hhow'⟩⟩
          case rest =>
            obtain ⟨Qr, r, bb, uo, ul, uc, kk, rfl, HRX⟩ := hcut
            obtain ⟨w7, hw7e⟩ : ∃ w7, w7 = wc := ⟨_, rfl⟩
            rw [← hw7e] at HRX ⊢
            have HKR := Lib.hid HRX.out.2.1
            have HA7 := Lib.hid (HA2.out.on HRX.out.1)
            have h64r := HRX.out.2.2.1
            have hhow := HRX.out.2.2.2
            have hres6 := HA2.out.res
            have hqb1 : Qr ≠ B + 1 := fun h => by
              have h1 := HKR.out
              rw [h] at h1
              exact absurd rfl (blk_types h1 HA7.out.res (by decide))
            have hqb2 : B + 1 ≠ Qr := fun h => hqb1 h.symm
            have H67 := Lib.hid (Below.refl w7.heap.size w7)
            clear hw7e hres6 c0 c1 c2 c3 c4
            have c0 : w7.cell? ⟨B, 0, none⟩ = some (.int .i64 gK) := HA7.out.dsk.cell 0
            have c1 : w7.cell? ⟨B, 1, none⟩ = some (.int .i64 xa) := HA7.out.dsk.cell 1
            have c2 : w7.cell? ⟨B, 2, none⟩ = some (.int .i64 gb) := HA7.out.dsk.cell 2
            have c3 : w7.cell? ⟨B, 3, none⟩ = some (.slice gao gn gc) := HA7.out.dsk.cell 3
            have c4 : w7.cell? ⟨B, 4, none⟩ = some (.int .i64 n) := HA7.out.dsk.cell 4
            have e0 : w7.cell? ⟨Qr, 0, none⟩ = some (.int .i64 r) := HKR.out.cell 0
            have e1 : w7.cell? ⟨Qr, 1, none⟩ = some (.bool bb) := HKR.out.cell 1
            have e2 : w7.cell? ⟨Qr, 2, none⟩ = some (.slice uo ul uc) := HKR.out.cell 2
            have e3 : w7.cell? ⟨Qr, 3, none⟩ = some (.int .i64 kk) := HKR.out.cell 3
            have HDR := Lib.hid (Digits_any r h64r w7.drew)
            have hlr := itoa_len h64r
            rcases hhow with ⟨rfl, hrf⟩ | ⟨rfl, l, hrf, h64k, hl6, ht1, hul, hil, _⟩
            · have HP := Lib.hid (show lineR (g, n) s = (Go.Lib.itoa r, (g, n)) by rw [HR.out]; unfold runF2; rw [HV0.out, HV1.out]; simp only; unfold runText; rw [show runR g n za zb = .ok (r, none) by rw [HRR.out, hrf]]; rfl)
              clear hrf hlr
              have HSK := Lib.hid (show ∀ w' : World, Below w7.heap.size w7 w' → (w'.cell? ⟨B, 0, none⟩ = some (.int .i64 gK) ∧ w'.cell? ⟨B, 1, none⟩ = some (.int .i64 xa) ∧ w'.cell? ⟨B, 2, none⟩ = some (.int .i64 gb) ∧ w'.cell? ⟨B, 3, none⟩ = some (.slice gao gn gc) ∧ w'.cell? ⟨B, 4, none⟩ = some (.int .i64 n) ∧ w'.cell? ⟨Qr, 0, none⟩ = some (.int .i64 r)) from fun w' hb => ⟨(HA7.out.dsk.below hb).cell 0, (HA7.out.dsk.below hb).cell 1, (HA7.out.dsk.below hb).cell 2, (HA7.out.dsk.below hb).cell 3, (HA7.out.dsk.below hb).cell 4, (HKR.out.below hb).cell 0⟩)
              go_wp2_with fail
              refine wp_region_held_drew (S := fun w' => w'.cell? ⟨B, 0, none⟩ = some (.int .i64 gK) ∧ w'.cell? ⟨B, 1, none⟩ = some (.int .i64 xa) ∧ w'.cell? ⟨B, 2, none⟩ = some (.int .i64 gb) ∧ w'.cell? ⟨B, 3, none⟩ = some (.slice gao gn gc) ∧ w'.cell? ⟨B, 4, none⟩ = some (.int .i64 n) ∧ w'.cell? ⟨Qr, 0, none⟩ = some (.int .i64 r)) (by kernel_rfl) ?hSR8_0 (fun hHeld => ?_)
              case hSR8_0 =>
                exact HSK.out _ ((Below.refl _ _).drew)
              refine wpAnyH_take (i := 0) (v := ?vvR8_0) rfl (by kernel_rfl) (by kernel_rfl) (by kernel_rfl) (fun _ _ _ h => h) (Or.inl ⟨by rfl, ?hyR8_0⟩) (by assumption) ?restR8_0
              case hyR8_0 => ((intro w hSw; (try dsimp only at hSw); go_simp) <;> with_reducible rfl)
              try simp only [sA, sC, Act.put, sD, sE, sF]
              refine wpAnyH_take (i := 1) (v := ?vvR8_1) rfl (by kernel_rfl) (by kernel_rfl) (by kernel_rfl) (fun _ _ _ h => h) (Or.inl ⟨by rfl, ?hyR8_1⟩) (by assumption) ?restR8_1
              case hyR8_1 => ((intro w hSw; (try dsimp only at hSw); go_simp) <;> with_reducible rfl)
              try simp only [sA, sB, sC, Act.put, sD, sE, sF]
              refine wpAnyH_take (i := 2) (v := ?vvR8_2) rfl (by kernel_rfl) (by kernel_rfl) (by kernel_rfl) (fun _ _ _ h => h) (Or.inl ⟨by rfl, ?hyR8_2⟩) (by assumption) ?restR8_2
              case hyR8_2 => ((intro w hSw; (try dsimp only at hSw); go_simp) <;> with_reducible rfl)
              try simp only [sA, sB, sC, Act.put, sD, sE, sF]
              refine wpAnyH_ready (rs := [3]) (by kernel_rfl) (by simp) ?_
              refine AllReadyH.cons rfl (fun K hK => ?_) AllReadyH.nil
              go_simp
              go_at_call 14
              refine (HDR.out).mono ?_
              rintro e w8 ⟨rfl, hb8⟩
              have hb8' : Below w7.heap.size w7 w8 := ((Below.refl _ w7).drew).trans hb8
              have HB8 := Lib.hid hb8'
              have HA8 := Lib.hid (HA7.out.on hb8')
              clear hb8 hb8'
              have r0 : w8.cell? ⟨B + 1, 0, none⟩ = some (.int .i64 0) := HA8.out.res.cell 0
              have r1 : w8.cell? ⟨B + 1, 1, none⟩ = some (.int .i64 0) := HA8.out.res.cell 1
              have r2 : w8.cell? ⟨B + 1, 2, none⟩ = some (.int .i64 0) := HA8.out.res.cell 2
              have r3 : w8.cell? ⟨B + 1, 3, none⟩ = some (.slice none 0 0) := HA8.out.res.cell 3
              have r4 : w8.cell? ⟨B + 1, 4, none⟩ = some (.int .i64 0) := HA8.out.res.cell 4
              have rf0 : w8.frozen? ⟨B + 1, 0, none⟩ = false := HA8.out.res.froz 0
              have rf1 : w8.frozen? ⟨B + 1, 1, none⟩ = false := HA8.out.res.froz 1
              have rf2 : w8.frozen? ⟨B + 1, 2, none⟩ = false := HA8.out.res.froz 2
              have rf3 : w8.frozen? ⟨B + 1, 3, none⟩ = false := HA8.out.res.froz 3
              have rf4 : w8.frozen? ⟨B + 1, 4, none⟩ = false := HA8.out.res.froz 4
              refine hK.out _ _ ?hSR8_3 (fun hHeld => ?_)
              case hSR8_3 => exact HSK.out _ HB8.out
              clear hK K
              try simp only [sA, sB, sC, Act.put, sD, sE, sF]
              refine wpAnyH_ready (rs := [4]) (by kernel_rfl) (by simp) ?_
              refine AllReadyH.cons rfl (fun K hK => ?_) AllReadyH.nil
              go_simp
              refine hK.out _ _ ?hSR8_4 (fun hHeld => ?_)
              case hSR8_4 => go_keep
              clear hK K
              try simp only [sA, sB, sC, Act.put, sD, sE, sF]
              refine wpAnyH_take (i := 5) (v := ?vvR8_5) rfl (by kernel_rfl) (by kernel_rfl) (by kernel_rfl) (fun _ _ _ h => h) (Or.inl ⟨by rfl, ?hyR8_5⟩) (by assumption) ?restR8_5
              case hyR8_5 => ((intro w hSw; (try dsimp only at hSw); go_simp) <;> with_reducible rfl)
              try simp only [sA, sB, sC, Act.put, sD, sE, sF]
              refine wpAnyH_done (by kernel_rfl) ?_ _
              go_wp2_with fail
              refine bodyPost_ret (v := .tuple #[.agg #[.int .i64 gK, .int .i64 xa, .int .i64 gb, .slice gao gn gc, .int .i64 n], str (Go.Lib.itoa r)]) (by simp [results, Tryz.results8, go_sem, r0, r1, r2, r3, r4]) rfl ?_
              first | exact HA8.out.told hB HGN.out.1 HGN.out.2 HP.out rfl | exact (HA8.out.told hB HGN.out.1 HGN.out.2 HP.out rfl).drew
            · obtain ⟨tr, htr⟩ : ∃ tr, Go.Lib.itoa r = tr := ⟨_, rfl⟩
              obtain ⟨tl, htl⟩ : ∃ tl, ttext l = tl := ⟨_, rfl⟩
              obtain ⟨tk, htk⟩ : ∃ tk, Go.Lib.itoa kk = tk := ⟨_, rfl⟩
              have hlk := itoa_len h64k
              have h64l : ∀ z ∈ l, i64ok z := fun z hz => by have h1 := ht1 z hz; unfold i64ok; omega
              have hll := ttext_cap h64l l.length
              rw [List.take_of_length_le (Nat.le_refl _)] at hll
              have HP := Lib.hid (show lineR (g, n) s = (tr ++ 32 :: (tl ++ 32 :: tk), (g, n)) by rw [HR.out]; unfold runF2; rw [HV0.out, HV1.out]; simp only; unfold runText; rw [show runR g n za zb = .ok (r, some (l, kk)) by rw [HRR.out, hrf], ← htr, ← htl, ← htk]; rfl)
              have HTT := Lib.hid (fun (W : World) h => TapeText_any l uo uc (by omega) h64l W h)
              have HDK := Lib.hid (fun W => Digits_any kk h64k W)
              rw [htr] at HDR hlr
              rw [htl, ← hul] at HTT
              rw [htl] at hll
              rw [htk] at HDK hlk
              have s1 : ¬ 9223372036854775807 < tr.length + 1 := by omega
              have s2 : ¬ 9223372036854775807 < tr.length + 1 + tl.length := by omega
              have s3 : ¬ 9223372036854775807 < tr.length + 1 + tl.length + 1 := by omega
              have s4 : ¬ 9223372036854775807 < tr.length + 1 + tl.length + 1 + tk.length := by omega
              have HCAT := Lib.hid (show Value.string ((((({ data := tr.toArray } : ByteArray) ++ { data := #[32] }) ++ { data := tl.toArray }) ++ { data := #[32] }) ++ { data := tk.toArray }) = str (tr ++ 32 :: (tl ++ 32 :: tk)) by
                rw [show ({ data := #[32] } : ByteArray) = ⟨([32] : Bytes).toArray⟩ from rfl, cat_text, cat_text, cat_text, cat_text]
                simp)
              have HIL := Lib.hid (fun (W : World) (hb : Below w7.heap.size w7 W) => ints_keep (ints_keep hil H67.out) hb)
              clear hrf htr htl htk hul hil ht1 hl6 h64l
              have HSK := Lib.hid (show ∀ w' : World, Below w7.heap.size w7 w' → (w'.cell? ⟨B, 0, none⟩ = some (.int .i64 gK) ∧ w'.cell? ⟨B, 1, none⟩ = some (.int .i64 xa) ∧ w'.cell? ⟨B, 2, none⟩ = some (.int .i64 gb) ∧ w'.cell? ⟨B, 3, none⟩ = some (.slice gao gn gc) ∧ w'.cell? ⟨B, 4, none⟩ = some (.int .i64 n) ∧ w'.cell? ⟨Qr, 0, none⟩ = some (.int .i64 r) ∧ w'.cell? ⟨Qr, 2, none⟩ = some (.slice uo ul uc) ∧ w'.cell? ⟨Qr, 3, none⟩ = some (.int .i64 kk)) from fun w' hb => ⟨(HA7.out.dsk.below hb).cell 0, (HA7.out.dsk.below hb).cell 1, (HA7.out.dsk.below hb).cell 2, (HA7.out.dsk.below hb).cell 3, (HA7.out.dsk.below hb).cell 4, (HKR.out.below hb).cell 0, (HKR.out.below hb).cell 2, (HKR.out.below hb).cell 3⟩)
              go_wp2_with fail
              refine wp_region_held_drew (S := fun w' => w'.cell? ⟨B, 0, none⟩ = some (.int .i64 gK) ∧ w'.cell? ⟨B, 1, none⟩ = some (.int .i64 xa) ∧ w'.cell? ⟨B, 2, none⟩ = some (.int .i64 gb) ∧ w'.cell? ⟨B, 3, none⟩ = some (.slice gao gn gc) ∧ w'.cell? ⟨B, 4, none⟩ = some (.int .i64 n) ∧ w'.cell? ⟨Qr, 0, none⟩ = some (.int .i64 r) ∧ w'.cell? ⟨Qr, 2, none⟩ = some (.slice uo ul uc) ∧ w'.cell? ⟨Qr, 3, none⟩ = some (.int .i64 kk)) (by kernel_rfl) ?hSR9_0 (fun hHeld => ?_)
              case hSR9_0 =>
                exact HSK.out _ ((Below.refl _ _).drew)
              refine wpAnyH_take (i := 0) (v := ?vvR9_0) rfl (by kernel_rfl) (by kernel_rfl) (by kernel_rfl) (fun _ _ _ h => h) (Or.inl ⟨by rfl, ?hyR9_0⟩) (by assumption) ?restR9_0
              case hyR9_0 => ((intro w hSw; (try dsimp only at hSw); go_simp) <;> with_reducible rfl)
              try simp only [sA, sC, Act.put, sD, sE, sF]
              refine wpAnyH_take (i := 1) (v := ?vvR9_1) rfl (by kernel_rfl) (by kernel_rfl) (by kernel_rfl) (fun _ _ _ h => h) (Or.inl ⟨by rfl, ?hyR9_1⟩) (by assumption) ?restR9_1
              case hyR9_1 => ((intro w hSw; (try dsimp only at hSw); go_simp) <;> with_reducible rfl)
              try simp only [sA, sB, sC, Act.put, sD, sE, sF]
              refine wpAnyH_take (i := 2) (v := ?vvR9_2) rfl (by kernel_rfl) (by kernel_rfl) (by kernel_rfl) (fun _ _ _ h => h) (Or.inl ⟨by rfl, ?hyR9_2⟩) (by assumption) ?restR9_2
              case hyR9_2 => ((intro w hSw; (try dsimp only at hSw); go_simp) <;> with_reducible rfl)
              try simp only [sA, sB, sC, Act.put, sD, sE, sF]
              refine wpAnyH_take (i := 5) (v := ?vvR9_5) rfl (by kernel_rfl) (by kernel_rfl) (by kernel_rfl) (fun _ _ _ h => h) (Or.inl ⟨by rfl, ?hyR9_5⟩) (by assumption) ?restR9_5
              case hyR9_5 => ((intro w hSw; (try dsimp only at hSw); go_simp) <;> with_reducible rfl)
              try simp only [sA, sB, sC, Act.put, sD, sE, sF]
              refine wpAnyH_take (i := 6) (v := ?vvR9_6) rfl (by kernel_rfl) (by kernel_rfl) (by kernel_rfl) (fun _ _ _ h => h) (Or.inl ⟨by rfl, ?hyR9_6⟩) (by assumption) ?restR9_6
              case hyR9_6 => ((intro w hSw; (try dsimp only at hSw); go_simp) <;> with_reducible rfl)
              try simp only [sA, sB, sC, Act.put, sD, sE, sF]
              refine wpAnyH_take (i := 10) (v := ?vvR9_10) rfl (by kernel_rfl) (by kernel_rfl) (by kernel_rfl) (fun _ _ _ h => h) (Or.inl ⟨by rfl, ?hyR9_10⟩) (by assumption) ?restR9_10
              case hyR9_10 => ((intro w hSw; (try dsimp only at hSw); go_simp) <;> with_reducible rfl)
              try simp only [sA, sB, sC, Act.put, sD, sE, sF]
              refine wpAnyH_take (i := 11) (v := ?vvR9_11) rfl (by kernel_rfl) (by kernel_rfl) (by kernel_rfl) (fun _ _ _ h => h) (Or.inl ⟨by rfl, ?hyR9_11⟩) (by assumption) ?restR9_11
              case hyR9_11 => ((intro w hSw; (try dsimp only at hSw); go_simp) <;> with_reducible rfl)
              try simp only [sA, sB, sC, Act.put, sD, sE, sF]
              refine wpAnyH_ready (rs := [3]) (by kernel_rfl) (by simp) ?_
              refine AllReadyH.cons rfl (fun K hK => ?_) AllReadyH.nil
              go_simp
              go_at_call 14
              refine (HDR.out).mono ?_
              rintro e w8 ⟨rfl, hb8⟩
              have hb8' : Below w7.heap.size w7 w8 := ((Below.refl _ w7).drew).trans hb8
              have HB8 := Lib.hid hb8'
              clear hb8 hb8'
              refine hK.out _ _ ?hSR9_3 (fun hHeld => ?_)
              case hSR9_3 => exact HSK.out _ HB8.out
              clear hK K
              try simp only [sA, sB, sC, Act.put, sD, sE, sF]
              refine wpAnyH_take (i := 4) (v := ?vvR9_4) rfl (by kernel_rfl) (by kernel_rfl) (by kernel_rfl) (fun _ _ _ h => h) (Or.inl ⟨by rfl, ?hyR9_4⟩) (by assumption) ?restR9_4
              case hyR9_4 => ((intro w hSw; (try dsimp only at hSw); go_simp) <;> with_reducible rfl)
              try simp only [sA, sB, sC, Act.put, sD, sE, sF]
              refine wpAnyH_ready (rs := [7]) (by kernel_rfl) (by simp) ?_
              refine AllReadyH.cons rfl (fun K hK => ?_) AllReadyH.nil
              go_simp
              go_at_call 22
              refine (HTT.out _ (HIL.out _ HB8.out)).mono ?_
              rintro e w9 ⟨rfl, hb9⟩
              have HB9 := Lib.hid (HB8.out.trans (hb9.mono HB8.out.size))
              clear hb9
              refine hK.out _ _ ?hSR9_7 (fun hHeld => ?_)
              case hSR9_7 => exact HSK.out _ HB9.out
              clear hK K
              try simp only [sA, sB, sC, Act.put, sD, sE, sF]
              refine wpAnyH_take (i := 8) (v := ?vvR9_8) rfl (by kernel_rfl) (by kernel_rfl) (by kernel_rfl) (fun _ _ _ h => h) (Or.inl ⟨by rfl, ?hyR9_8⟩) (by assumption) ?restR9_8
              case hyR9_8 => ((intro w hSw; (try dsimp only at hSw); go_simp) <;> with_reducible rfl)
              try simp only [sA, sB, sC, Act.put, sD, sE, sF]
              refine wpAnyH_take (i := 9) (v := ?vvR9_9) rfl (by kernel_rfl) (by kernel_rfl) (by kernel_rfl) (fun _ _ _ h => h) (Or.inl ⟨by rfl, ?hyR9_9⟩) (by assumption) ?restR9_9
              case hyR9_9 => ((intro w hSw; (try dsimp only at hSw); go_simp) <;> with_reducible rfl)
              try simp only [sA, sB, sC, Act.put, sD, sE, sF]
              refine wpAnyH_ready (rs := [12]) (by kernel_rfl) (by simp) ?_
              refine AllReadyH.cons rfl (fun K hK => ?_) AllReadyH.nil
              go_simp
              go_at_call 14
              refine (HDK.out _).mono ?_
              rintro e w10 ⟨rfl, hb10⟩
              have HB10 := Lib.hid (HB9.out.trans (hb10.mono HB9.out.size))
              have HA10 := Lib.hid (HA7.out.on HB10.out)
              clear hb10
              have r0 : w10.cell? ⟨B + 1, 0, none⟩ = some (.int .i64 0) := HA10.out.res.cell 0
              have r1 : w10.cell? ⟨B + 1, 1, none⟩ = some (.int .i64 0) := HA10.out.res.cell 1
              have r2 : w10.cell? ⟨B + 1, 2, none⟩ = some (.int .i64 0) := HA10.out.res.cell 2
              have r3 : w10.cell? ⟨B + 1, 3, none⟩ = some (.slice none 0 0) := HA10.out.res.cell 3
              have r4 : w10.cell? ⟨B + 1, 4, none⟩ = some (.int .i64 0) := HA10.out.res.cell 4
              have rf0 : w10.frozen? ⟨B + 1, 0, none⟩ = false := HA10.out.res.froz 0
              have rf1 : w10.frozen? ⟨B + 1, 1, none⟩ = false := HA10.out.res.froz 1
              have rf2 : w10.frozen? ⟨B + 1, 2, none⟩ = false := HA10.out.res.froz 2
              have rf3 : w10.frozen? ⟨B + 1, 3, none⟩ = false := HA10.out.res.froz 3
              have rf4 : w10.frozen? ⟨B + 1, 4, none⟩ = false := HA10.out.res.froz 4
              refine hK.out _ _ ?hSR9_12 (fun hHeld => ?_)
              case hSR9_12 => exact HSK.out _ HB10.out
              clear hK K
              try simp only [sA, sB, sC, Act.put, sD, sE, sF]
              refine wpAnyH_take (i := 13) (v := ?vvR9_13) rfl (by kernel_rfl) (by kernel_rfl) (by kernel_rfl) (fun _ _ _ h => h) (Or.inl ⟨by rfl, ?hyR9_13⟩) (by assumption) ?restR9_13
              case hyR9_13 => ((intro w hSw; (try dsimp only at hSw); go_simp) <;> with_reducible rfl)
              try simp only [sA, sB, sC, Act.put, sD, sE, sF]
              refine wpAnyH_ready (rs := [14]) (by kernel_rfl) (by simp) ?_
              refine AllReadyH.cons rfl (fun K hK => ?_) AllReadyH.nil
              go_simp
              refine hK.out _ _ ?hSR9_14 (fun hHeld => ?_)
              case hSR9_14 => go_keep
              clear hK K
              try simp only [sA, sB, sC, Act.put, sD, sE, sF]
              refine wpAnyH_take (i := 15) (v := ?vvR9_15) rfl (by kernel_rfl) (by kernel_rfl) (by kernel_rfl) (fun _ _ _ h => h) (Or.inl ⟨by rfl, ?hyR9_15⟩) (by assumption) ?restR9_15
              case hyR9_15 => ((intro w hSw; (try dsimp only at hSw); go_simp) <;> with_reducible rfl)
              try simp only [sA, sB, sC, Act.put, sD, sE, sF]
              refine wpAnyH_done (by kernel_rfl) ?_ _
              go_wp2_with fail
              refine bodyPost_ret (v := .tuple #[.agg #[.int .i64 gK, .int .i64 xa, .int .i64 gb, .slice gao gn gc, .int .i64 n], .string ((((({ data := tr.toArray } : ByteArray) ++ { data := #[32] }) ++ { data := tl.toArray }) ++ { data := #[32] }) ++ { data := tk.toArray })]) (by simp [results, Tryz.results8, go_sem, r0, r1, r2, r3, r4]) rfl ?_
              rw [HCAT.out]
              first | exact HA10.out.told hB HGN.out.1 HGN.out.2 HP.out rfl | exact (HA10.out.told hB HGN.out.1 HGN.out.2 HP.out rfl).drew
end Go.Proofs.YtalbllijahiiiaaGreatDoor
