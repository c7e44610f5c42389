/- assayerref2.Answered: a word that is no number. assayerref2.Answered: no form. -/
import Derived.Test.YtalbllijahiiiaaGreatDoorDkBJ
import Derived.Deep.RegionHeld
section
namespace Go.Proofs.YtalbllijahiiiaaGreatDoor
open Go.RowKit Go.Mine Go.Mine.Desk

theorem words_bad {g : G} {n : Int} {x0 : Bytes} : ∀ {args : List Bytes}, (∃ p ∈ args, wordV p = none) → (args.length = 1 → x0 ≠ kShow ∧ x0 ≠ kLess) → wordsR (g, n) (x0 :: args) = .error 7
  | [], hb, _ => by obtain ⟨p, hp, _⟩ := hb; simp at hp
  | [x], hb, hsl => by
    have hx : wordV x = none := by
      obtain ⟨p, hp, h⟩ := hb
      simp at hp
      rw [← hp]; exact h
    obtain ⟨h1, h2⟩ := hsl rfl
    unfold wordsR
    simp only [if_neg h1, if_neg h2]
    split
    · unfold limitR; rw [hx]
    · split
      · unfold nthF; rw [hx]
      · rfl
  | [x, y], hb, _ => by
    have hx : wordV x = none ∨ wordV y = none := by
      obtain ⟨p, hp, h⟩ := hb
      simp at hp
      rcases hp with rfl | rfl
      · exact .inl h
      · exact .inr h
    unfold wordsR
    simp only
    split
    · unfold intR
      rcases hx with h | h <;> rw [h]
      cases wordV x <;> rfl
    · split
      · unfold runF2
        rcases hx with h | h <;> rw [h]
        cases wordV x <;> rfl
      · rfl
  | [x, y, u], hb, _ => by
    have hx : wordV x = none ∨ wordV y = none ∨ wordV u = none := by
      obtain ⟨p, hp, h⟩ := hb
      simp at hp
      rcases hp with rfl | rfl | rfl
      · exact .inl h
      · exact .inr (.inl h)
      · exact .inr (.inr h)
    unfold wordsR
    simp only
    split
    · unfold manyR
      rcases hx with h | h | h <;> rw [h]
      · cases wordV x <;> rfl
      · cases wordV x <;> cases wordV y <;> rfl
    · rfl
  | _ :: _ :: _ :: _ :: _, _, _ => rfl
theorem words_none {g : G} {n : Int} {x0 : Bytes} : ∀ {args : List Bytes}, (args = [] → x0 ≠ kCount) → (args.length = 1 → x0 ≠ kLimit ∧ x0 ≠ kNth ∧ x0 ≠ kShow ∧ x0 ≠ kLess) → (args.length = 2 → x0 ≠ kInt ∧ x0 ≠ kRun) → (args.length = 3 → x0 ≠ kMany) → wordsR (g, n) (x0 :: args) = .error 7
  | [], h0, _, _, _ => by unfold wordsR; simp only [if_neg (h0 rfl)]
  | [x], _, h1, _, _ => by
    obtain ⟨a, b, c, d⟩ := h1 rfl
    unfold wordsR
    simp only [if_neg a, if_neg b, if_neg c, if_neg d]
  | [x, y], _, _, h2, _ => by
    obtain ⟨a, b⟩ := h2 rfl
    unfold wordsR
    simp only [if_neg a, if_neg b]
  | [x, y, u], _, _, _, h3 => by
    unfold wordsR
    simp only [if_neg (h3 rfl)]
  | _ :: _ :: _ :: _ :: _, _, _, _, _ => rfl
set_option maxRecDepth 100000 in
set_option maxHeartbeats 4000000 in
theorem ans_bad1 (g : G) (n : Int) (hg : g.right) (hn : near n) (gK xa gb : Int) (gao : Option Addr) (gn gc : Nat) (s : Bytes) (hs : s.length ≤ 1100000) (x0 : Bytes) (args : List Bytes) (hw : cuts 32 s = x0 :: args) (hne : s ≠ kCount) (hsl : args.length = 1 → x0 ≠ kShow ∧ x0 ≠ kLess) (hbd : ∃ p ∈ args, wordV p = none) (hq : args.length = 1) (w : World) (hv : GenAt w (.agg #[.int .i64 gK, .int .i64 xa, .int .i64 gb, .slice gao gn gc]) g) :
    Calls Tryz.prog 8 #[.agg #[.int .i64 gK, .int .i64 xa, .int .i64 gb, .slice gao gn gc, .int .i64 n], str s] w (AnsPost (lineR (g, n) s) w) := by
  have hsc : (s == [99, 111, 117, 110, 116]) = false := beq_eq_false_iff_ne.2 hne
  obtain ⟨w0, hw0⟩ : ∃ w0, w0 = (w.alloc (.cells #[.int .i64 gK, .int .i64 xa, .int .i64 gb, .slice gao gn gc, .int .i64 n] 30)).alloc (.cells #[.int .i64 0, .int .i64 0, .int .i64 0, .slice none 0 0, .int .i64 0] 30) := ⟨_, rfl⟩
  obtain ⟨B, hB⟩ : ∃ B, w.heap.size = B := ⟨_, rfl⟩
  have HA0 := Lib.hid (AN.start hB hv hw0)
  have HC := Lib.hid (show Calls Tryz.prog 7 #[str s, .int .u8 32] w0 (fun e w' => (∃ v, e = .returned v ∧ w'.ownsRow w0.heap.size 9 1 v (cuts 32 s).length ((cuts 32 s).map str)) ∧ Below w0.heap.size w0 w') from by
    have h := Cut_any s 32 hs w0
    rw [show (((32 : UInt8).toNat : Nat) : Int) = 32 from rfl] at h
    exact h)
  have HW := Lib.hid hw0
  have HGN := Lib.hid (And.intro hg hn)
  clear hw0 hv hg hn
  have bShow : (x0 == [115, 104, 111, 119]) = false := beq_eq_false_iff_ne.2 (hsl hq).1
  have bLess : (x0 == [108, 101, 115, 115]) = false := beq_eq_false_iff_ne.2 (hsl hq).2
  have HP := Lib.hid (show lineR (g, n) s = ([69, 114, 114, 83, 121, 110, 116, 97, 120], (g, n)) by unfold lineR; rw [hw, words_bad hbd hsl]; rfl)
  have HBD := Lib.hid hbd
  have hN : args.length + 1 = 2 := by omega
  clear hsl hbd hq
  rw [hw] at HC
  have HN := Lib.hid hN
  rw [List.length_cons, hN] at HC
  clear hne hw hs
  go_enter Tryz.func8, Tryz.ntmps8
  go_upto_region 1 with fail
  rw [← HW.out]
  go_wp2_with fail
  refine HC.out.mono ?_
  clear HC
  rintro e w1 ⟨⟨v, rfl, hown⟩, hb1⟩
  obtain ⟨ro, rc, rfl⟩ := owns_shape hown
  have HA1 := Lib.hid (HA0.out.on hb1)
  obtain ⟨q, rfl⟩ : ∃ q, ro = some ⟨q, 0, none⟩ := by
    rcases hown.2 with ⟨_, h0⟩ | ⟨q, cap, cur, h1, _⟩
    · omega
    · simp only [Value.slice.injEq] at h1
      exact ⟨q, h1.1⟩
  have HCW := Lib.hid (show ∀ W, Below w1.heap.size w1 W → ∀ j, j < 2 → W.cell? ⟨q, j, none⟩ = some (str ((x0 :: args).getD j [])) from fun W hb j hj => by
    have hj' : j < (x0 :: args).length := by rw [List.length_cons]; omega
    rw [hb.cell (hown.lt q rfl).2, hown.cellAt j (by omega)]
    simp only [List.getElem?_map, List.getD, List.getElem?_eq_getElem hj', Option.map_some, Option.getD_some])
  have h0 : w1.cell? ⟨q, 0, none⟩ = some (str x0) := HCW.out w1 (Below.refl _ _) 0 (by omega)
  obtain ⟨Q, hQ⟩ : ∃ Q, w1.heap.size = Q := ⟨_, rfl⟩
  have HL0 := Lib.hid (show LN w1 w1 Q args 1 [] (.slice none 0 0) from ⟨Below.refl _ _, World.ownsRow_nil _ _ _ _, rfl, fun j hj => by simp at hj, by omega⟩)
  have hQB : B + 1 + 1 ≤ Q := by rw [← hQ]; exact HA1.out.res.lt
  have HQ := Lib.hid hQ
  obtain ⟨i1, hj1, hy0, hy1, hy2⟩ := info_parts infoI3d
  clear hown hb1 hQ hN
  go_wp2_with fail
  go_loopw [12, 13, 14, 15] (fun nv iv _ _ wr => ∃ (i : Nat) (zs : List Int), iv = .int .i64 (i : Int) ∧ 1 ≤ i ∧ i ≤ 2 ∧ RowKit.Hid (LN w1 wr Q args i zs nv)) (fun _ iv _ _ _ => 2 - (intOf iv).toNat)
  case atStart => exact ⟨1, [], rfl, by omega, by omega, HL0⟩
  case round =>
    obtain ⟨i, zs, rfl, hi1', hiN, HJ⟩ := hrel
    have HA2 := Lib.hid (HA1.out.on HJ.out.below)
    rcases Nat.lt_or_ge i 2 with hlt | hge
    · have hcell := HCW.out wr HJ.out.below i hlt
      obtain ⟨p, hp⟩ : ∃ p, p = args.getD (i - 1) [] := ⟨_, rfl⟩
      have hpe : (x0 :: args).getD i [] = p := by
        obtain ⟨j, rfl⟩ : ∃ j, i = j + 1 := ⟨i - 1, by omega⟩
        rw [hp]; rfl
      have hmem : p ∈ args := by
        have hl : i - 1 < args.length := by have := HN.out; omega
        rw [hp, List.getD, List.getElem?_eq_getElem hl]
        exact List.getElem_mem hl
      rw [hpe] at hcell
      have HPP := Lib.hid (And.intro hp hmem)
      have hj0 : (0 : Int) ≤ (i : Int) := by omega
      have hj1' : (i : Int) < (2 : Int) := by omega
      have hw1 : IntKind.i64.wrap ((i : Int) + 1) = ((i + 1 : Nat) : Int) := by rw [IntWalk.i64_in _ (by omega)]; omega
      have HNW := Lib.hid (num_walk p wr)
      clear hp hpe hmem
      go_wp2_with fail
      refine HNW.out.mono ?_
      clear HNW hcell
      rintro e w3 ⟨⟨z, bb, rfl, h64, hnum⟩, hb3⟩
      have HA3 := Lib.hid (HA2.out.on hb3)
      have HNM := Lib.hid hnum
      have HLN3 := Lib.hid (show LN w1 w3 Q args i zs _ from ⟨HJ.out.below.trans (hb3.mono HJ.out.below.size), owns_below HJ.out.row hb3, HJ.out.len, HJ.out.all, Nat.le_trans HJ.out.size hb3.size⟩)
      have hzb : zs.length + 1 ≤ 2 := by have := HJ.out.len; omega
      have hsz3 := HLN3.out.size
      unfold i64ok at h64
      clear hnum hb3
      cases bb with
      | false =>
        have c0 : w3.cell? ⟨B, 0, none⟩ = some (.int .i64 gK) := HA3.out.dsk.cell 0
        have c1 : w3.cell? ⟨B, 1, none⟩ = some (.int .i64 xa) := HA3.out.dsk.cell 1
        have c2 : w3.cell? ⟨B, 2, none⟩ = some (.int .i64 gb) := HA3.out.dsk.cell 2
        have c3 : w3.cell? ⟨B, 3, none⟩ = some (.slice gao gn gc) := HA3.out.dsk.cell 3
        have c4 : w3.cell? ⟨B, 4, none⟩ = some (.int .i64 n) := HA3.out.dsk.cell 4
        have r0 : w3.cell? ⟨B + 1, 0, none⟩ = some (.int .i64 0) := HA3.out.res.cell 0
        have r1 : w3.cell? ⟨B + 1, 1, none⟩ = some (.int .i64 0) := HA3.out.res.cell 1
        have r2 : w3.cell? ⟨B + 1, 2, none⟩ = some (.int .i64 0) := HA3.out.res.cell 2
        have r3 : w3.cell? ⟨B + 1, 3, none⟩ = some (.slice none 0 0) := HA3.out.res.cell 3
        have r4 : w3.cell? ⟨B + 1, 4, none⟩ = some (.int .i64 0) := HA3.out.res.cell 4
        have rf0 : w3.frozen? ⟨B + 1, 0, none⟩ = false := HA3.out.res.froz 0
        have rf1 : w3.frozen? ⟨B + 1, 1, none⟩ = false := HA3.out.res.froz 1
        have rf2 : w3.frozen? ⟨B + 1, 2, none⟩ = false := HA3.out.res.froz 2
        have rf3 : w3.frozen? ⟨B + 1, 3, none⟩ = false := HA3.out.res.froz 3
        have rf4 : w3.frozen? ⟨B + 1, 4, none⟩ = false := HA3.out.res.froz 4
        go_wp2_with fail
        refine bodyPost_ret (v := .tuple #[.agg #[.int .i64 gK, .int .i64 xa, .int .i64 gb, .slice gao gn gc, .int .i64 n], str ([69, 114, 114, 83, 121, 110, 116, 97, 120])]) (by simp [results, Tryz.results8, go_sem, r0, r1, r2, r3, r4]) rfl ?_
        first | exact HA3.out.told hB HGN.out.1 HGN.out.2 HP.out rfl | exact (HA3.out.told hB HGN.out.1 HGN.out.2 HP.out rfl).drew
      | true =>
        by_cases z1 : z < -1073741824
        · have d1 : decide (z < -1073741824) = true := decide_eq_true z1
          have c0 : w3.cell? ⟨B, 0, none⟩ = some (.int .i64 gK) := HA3.out.dsk.cell 0
          have c1 : w3.cell? ⟨B, 1, none⟩ = some (.int .i64 xa) := HA3.out.dsk.cell 1
          have c2 : w3.cell? ⟨B, 2, none⟩ = some (.int .i64 gb) := HA3.out.dsk.cell 2
          have c3 : w3.cell? ⟨B, 3, none⟩ = some (.slice gao gn gc) := HA3.out.dsk.cell 3
          have c4 : w3.cell? ⟨B, 4, none⟩ = some (.int .i64 n) := HA3.out.dsk.cell 4
          have r0 : w3.cell? ⟨B + 1, 0, none⟩ = some (.int .i64 0) := HA3.out.res.cell 0
          have r1 : w3.cell? ⟨B + 1, 1, none⟩ = some (.int .i64 0) := HA3.out.res.cell 1
          have r2 : w3.cell? ⟨B + 1, 2, none⟩ = some (.int .i64 0) := HA3.out.res.cell 2
          have r3 : w3.cell? ⟨B + 1, 3, none⟩ = some (.slice none 0 0) := HA3.out.res.cell 3
          have r4 : w3.cell? ⟨B + 1, 4, none⟩ = some (.int .i64 0) := HA3.out.res.cell 4
          have rf0 : w3.frozen? ⟨B + 1, 0, none⟩ = false := HA3.out.res.froz 0
          have rf1 : w3.frozen? ⟨B + 1, 1, none⟩ = false := HA3.out.res.froz 1
          have rf2 : w3.frozen? ⟨B + 1, 2, none⟩ = false := HA3.out.res.froz 2
          have rf3 : w3.frozen? ⟨B + 1, 3, none⟩ = false := HA3.out.res.froz 3
          have rf4 : w3.frozen? ⟨B + 1, 4, none⟩ = false := HA3.out.res.froz 4
          go_wp2_with fail
          refine bodyPost_ret (v := .tuple #[.agg #[.int .i64 gK, .int .i64 xa, .int .i64 gb, .slice gao gn gc, .int .i64 n], str ([69, 114, 114, 83, 121, 110, 116, 97, 120])]) (by simp [results, Tryz.results8, go_sem, r0, r1, r2, r3, r4]) rfl ?_
          first | exact HA3.out.told hB HGN.out.1 HGN.out.2 HP.out rfl | exact (HA3.out.told hB HGN.out.1 HGN.out.2 HP.out rfl).drew
        · have d1 : decide (z < -1073741824) = false := decide_eq_false z1
          by_cases z2 : 1073741824 < z
          · have d2 : decide (1073741824 < z) = true := decide_eq_true z2
            have c0 : w3.cell? ⟨B, 0, none⟩ = some (.int .i64 gK) := HA3.out.dsk.cell 0
            have c1 : w3.cell? ⟨B, 1, none⟩ = some (.int .i64 xa) := HA3.out.dsk.cell 1
            have c2 : w3.cell? ⟨B, 2, none⟩ = some (.int .i64 gb) := HA3.out.dsk.cell 2
            have c3 : w3.cell? ⟨B, 3, none⟩ = some (.slice gao gn gc) := HA3.out.dsk.cell 3
            have c4 : w3.cell? ⟨B, 4, none⟩ = some (.int .i64 n) := HA3.out.dsk.cell 4
            have r0 : w3.cell? ⟨B + 1, 0, none⟩ = some (.int .i64 0) := HA3.out.res.cell 0
            have r1 : w3.cell? ⟨B + 1, 1, none⟩ = some (.int .i64 0) := HA3.out.res.cell 1
            have r2 : w3.cell? ⟨B + 1, 2, none⟩ = some (.int .i64 0) := HA3.out.res.cell 2
            have r3 : w3.cell? ⟨B + 1, 3, none⟩ = some (.slice none 0 0) := HA3.out.res.cell 3
            have r4 : w3.cell? ⟨B + 1, 4, none⟩ = some (.int .i64 0) := HA3.out.res.cell 4
            have rf0 : w3.frozen? ⟨B + 1, 0, none⟩ = false := HA3.out.res.froz 0
            have rf1 : w3.frozen? ⟨B + 1, 1, none⟩ = false := HA3.out.res.froz 1
            have rf2 : w3.frozen? ⟨B + 1, 2, none⟩ = false := HA3.out.res.froz 2
            have rf3 : w3.frozen? ⟨B + 1, 3, none⟩ = false := HA3.out.res.froz 3
            have rf4 : w3.frozen? ⟨B + 1, 4, none⟩ = false := HA3.out.res.froz 4
            go_wp2_with fail
            refine bodyPost_ret (v := .tuple #[.agg #[.int .i64 gK, .int .i64 xa, .int .i64 gb, .slice gao gn gc, .int .i64 n], str ([69, 114, 114, 83, 121, 110, 116, 97, 120])]) (by simp [results, Tryz.results8, go_sem, r0, r1, r2, r3, r4]) rfl ?_
            first | exact HA3.out.told hB HGN.out.1 HGN.out.2 HP.out rfl | exact (HA3.out.told hB HGN.out.1 HGN.out.2 HP.out rfl).drew
          · have d2 : decide (1073741824 < z) = false := decide_eq_false z2
            have HWV := Lib.hid (word_some (HNM.out.1 rfl) z1 z2)
            go_wp2_with (at_builtin; refine wpList_push2 _ rfl _ _ 48 rfl Q 3 i1 (.int .i64 0) 1 8 Tryz.underlying48 hj1 hy0 hy1 hy2 rfl (by decide) _ _ _ rfl (HLN3.out.row.alloc _) ⟨w3.heap.size, 0, none⟩ 1 [.int .i64 z] rfl rfl (World.news_of_block (cs := #[.int .i64 z]) (t := 3) (fr := (0, 0)) (heap_alloc_at _ _ rfl)) (one1 _ _) (by unfold maxLen; omega) (by omega) (by simp; omega) ?_)
            intro gq cap w7 hown hgr hat7
            have HJ7 := Lib.hid (show LN w1 w7 Q args (i + 1) (zs ++ [z]) (.slice (some ⟨gq, 0, none⟩) (zs.length + 1) cap) from by
              refine ⟨(HLN3.out.below.alloc HLN3.out.below.size (.cells #[.int .i64 z] 3)).grown hgr (by have := HLN3.out.below.size; simp; omega) (fun k hk => by have := (HLN3.out.row.lt k hk).1; have := HQ.out; omega), by rw [List.length_append, List.map_append]; exact hown, by rw [List.length_append]; have := HJ.out.len; simp; omega, fun j hj => ?_, by have := hgr.size; simp at this; omega⟩
              rw [List.length_append] at hj
              rcases Nat.lt_or_ge j zs.length with h | h
              · rw [HJ.out.all j h]
                simp [List.getD, List.getElem?_append_left h]
              · have hjz : j = zs.length := by simp at hj; omega
                subst hjz
                have hi : i - 1 = zs.length := by have := HJ.out.len; omega
                rw [← hi, ← HPP.out.1, HWV.out, hi]
                simp [List.getD])
            clear hown hgr hat7
            go_wp2_with fail
            go_roundw
            case rel => exact ⟨i + 1, zs ++ [z], by go_num, by omega, by omega, HJ7⟩
            case measure => simp [intOf]; omega
    · have hiN' : i = 2 := by omega
      subst hiN'
      have h0' : wr.cell? ⟨q, 0, none⟩ = some (str x0) := HCW.out wr HJ.out.below 0 (by omega)
      exfalso
      obtain ⟨p, hp, hpn⟩ := HBD.out
      obtain ⟨j, hj, rfl⟩ := List.mem_iff_getElem.1 hp
      have hz := HJ.out.len
      have hN := HN.out
      have h := HJ.out.all j (by omega)
      rw [List.getD, List.getElem?_eq_getElem hj, Option.getD_some, hpn] at h
      cases h
set_option maxRecDepth 100000 in
set_option maxHeartbeats 4000000 in
theorem ans_bad2 (g : G) (n : Int) (hg : g.right) (hn : near n) (gK xa gb : Int) (gao : Option Addr) (gn gc : Nat) (s : Bytes) (hs : s.length ≤ 1100000) (x0 : Bytes) (args : List Bytes) (hw : cuts 32 s = x0 :: args) (hne : s ≠ kCount) (hsl : args.length = 1 → x0 ≠ kShow ∧ x0 ≠ kLess) (hbd : ∃ p ∈ args, wordV p = none) (hq : args.length ≠ 1) (w : World) (hv : GenAt w (.agg #[.int .i64 gK, .int .i64 xa, .int .i64 gb, .slice gao gn gc]) g) :
    Calls Tryz.prog 8 #[.agg #[.int .i64 gK, .int .i64 xa, .int .i64 gb, .slice gao gn gc, .int .i64 n], str s] w (AnsPost (lineR (g, n) s) w) := by
  have hsc : (s == [99, 111, 117, 110, 116]) = false := beq_eq_false_iff_ne.2 hne
  obtain ⟨w0, hw0⟩ : ∃ w0, w0 = (w.alloc (.cells #[.int .i64 gK, .int .i64 xa, .int .i64 gb, .slice gao gn gc, .int .i64 n] 30)).alloc (.cells #[.int .i64 0, .int .i64 0, .int .i64 0, .slice none 0 0, .int .i64 0] 30) := ⟨_, rfl⟩
  obtain ⟨B, hB⟩ : ∃ B, w.heap.size = B := ⟨_, rfl⟩
  have HA0 := Lib.hid (AN.start hB hv hw0)
  have HC := Lib.hid (show Calls Tryz.prog 7 #[str s, .int .u8 32] w0 (fun e w' => (∃ v, e = .returned v ∧ w'.ownsRow w0.heap.size 9 1 v (cuts 32 s).length ((cuts 32 s).map str)) ∧ Below w0.heap.size w0 w') from by
    have h := Cut_any s 32 hs w0
    rw [show (((32 : UInt8).toNat : Nat) : Int) = 32 from rfl] at h
    exact h)
  have HW := Lib.hid hw0
  have HGN := Lib.hid (And.intro hg hn)
  clear hw0 hv hg hn
  have HP := Lib.hid (show lineR (g, n) s = ([69, 114, 114, 83, 121, 110, 116, 97, 120], (g, n)) by unfold lineR; rw [hw, words_bad hbd hsl]; rfl)
  have HBD := Lib.hid hbd
  obtain ⟨N, hN⟩ : ∃ N, args.length + 1 = N := ⟨_, rfl⟩
  have hNb : N ≤ 1100001 := by have h := cuts_length 32 s; rw [hw, List.length_cons] at h; omega
  have hN2 : ¬ N = 2 := by omega
  have hN3 : ¬ (N : Int) = 2 := by omega
  have hN4 : ((N : Int) == 2) = false := by rw [beq_eq_false_iff_ne]; omega
  have hN1 : 1 ≤ N := by omega
  clear hsl hbd hq
  rw [hw] at HC
  have HN := Lib.hid hN
  rw [List.length_cons, hN] at HC
  clear hne hw hs
  go_enter Tryz.func8, Tryz.ntmps8
  go_upto_region 1 with fail
  rw [← HW.out]
  go_wp2_with fail
  refine HC.out.mono ?_
  clear HC
  rintro e w1 ⟨⟨v, rfl, hown⟩, hb1⟩
  obtain ⟨ro, rc, rfl⟩ := owns_shape hown
  have HA1 := Lib.hid (HA0.out.on hb1)
  obtain ⟨q, rfl⟩ : ∃ q, ro = some ⟨q, 0, none⟩ := by
    rcases hown.2 with ⟨_, h0⟩ | ⟨q, cap, cur, h1, _⟩
    · omega
    · simp only [Value.slice.injEq] at h1
      exact ⟨q, h1.1⟩
  have HCW := Lib.hid (show ∀ W, Below w1.heap.size w1 W → ∀ j, j < N → W.cell? ⟨q, j, none⟩ = some (str ((x0 :: args).getD j [])) from fun W hb j hj => by
    have hj' : j < (x0 :: args).length := by rw [List.length_cons]; omega
    rw [hb.cell (hown.lt q rfl).2, hown.cellAt j (by omega)]
    simp only [List.getElem?_map, List.getD, List.getElem?_eq_getElem hj', Option.map_some, Option.getD_some])
  have h0 : w1.cell? ⟨q, 0, none⟩ = some (str x0) := HCW.out w1 (Below.refl _ _) 0 (by omega)
  obtain ⟨Q, hQ⟩ : ∃ Q, w1.heap.size = Q := ⟨_, rfl⟩
  have HL0 := Lib.hid (show LN w1 w1 Q args 1 [] (.slice none 0 0) from ⟨Below.refl _ _, World.ownsRow_nil _ _ _ _, rfl, fun j hj => by simp at hj, by omega⟩)
  have hQB : B + 1 + 1 ≤ Q := by rw [← hQ]; exact HA1.out.res.lt
  have HQ := Lib.hid hQ
  obtain ⟨i1, hj1, hy0, hy1, hy2⟩ := info_parts infoI3d
  clear hown hb1 hQ hN
  go_wp2_with fail
  go_loopw [12, 13, 14, 15] (fun nv iv _ _ wr => ∃ (i : Nat) (zs : List Int), iv = .int .i64 (i : Int) ∧ 1 ≤ i ∧ i ≤ N ∧ RowKit.Hid (LN w1 wr Q args i zs nv)) (fun _ iv _ _ _ => N - (intOf iv).toNat)
  case atStart => exact ⟨1, [], rfl, by omega, by omega, HL0⟩
  case round =>
    obtain ⟨i, zs, rfl, hi1', hiN, HJ⟩ := hrel
    have HA2 := Lib.hid (HA1.out.on HJ.out.below)
    rcases Nat.lt_or_ge i N with hlt | hge
    · have hcell := HCW.out wr HJ.out.below i hlt
      obtain ⟨p, hp⟩ : ∃ p, p = args.getD (i - 1) [] := ⟨_, rfl⟩
      have hpe : (x0 :: args).getD i [] = p := by
        obtain ⟨j, rfl⟩ : ∃ j, i = j + 1 := ⟨i - 1, by omega⟩
        rw [hp]; rfl
      have hmem : p ∈ args := by
        have hl : i - 1 < args.length := by have := HN.out; omega
        rw [hp, List.getD, List.getElem?_eq_getElem hl]
        exact List.getElem_mem hl
      rw [hpe] at hcell
      have HPP := Lib.hid (And.intro hp hmem)
      have hj0 : (0 : Int) ≤ (i : Int) := by omega
      have hj1' : (i : Int) < (N : Int) := by omega
      have hw1 : IntKind.i64.wrap ((i : Int) + 1) = ((i + 1 : Nat) : Int) := by rw [IntWalk.i64_in _ (by omega)]; omega
      have HNW := Lib.hid (num_walk p wr)
      clear hp hpe hmem
      go_wp2_with fail
      refine HNW.out.mono ?_
      clear HNW hcell
      rintro e w3 ⟨⟨z, bb, rfl, h64, hnum⟩, hb3⟩
      have HA3 := Lib.hid (HA2.out.on hb3)
      have HNM := Lib.hid hnum
      have HLN3 := Lib.hid (show LN w1 w3 Q args i zs _ from ⟨HJ.out.below.trans (hb3.mono HJ.out.below.size), owns_below HJ.out.row hb3, HJ.out.len, HJ.out.all, Nat.le_trans HJ.out.size hb3.size⟩)
      have hzb : zs.length + 1 ≤ N := by have := HJ.out.len; omega
      have hsz3 := HLN3.out.size
      unfold i64ok at h64
      clear hnum hb3
      cases bb with
      | false =>
        have c0 : w3.cell? ⟨B, 0, none⟩ = some (.int .i64 gK) := HA3.out.dsk.cell 0
        have c1 : w3.cell? ⟨B, 1, none⟩ = some (.int .i64 xa) := HA3.out.dsk.cell 1
        have c2 : w3.cell? ⟨B, 2, none⟩ = some (.int .i64 gb) := HA3.out.dsk.cell 2
        have c3 : w3.cell? ⟨B, 3, none⟩ = some (.slice gao gn gc) := HA3.out.dsk.cell 3
        have c4 : w3.cell? ⟨B, 4, none⟩ = some (.int .i64 n) := HA3.out.dsk.cell 4
        have r0 : w3.cell? ⟨B + 1, 0, none⟩ = some (.int .i64 0) := HA3.out.res.cell 0
        have r1 : w3.cell? ⟨B + 1, 1, none⟩ = some (.int .i64 0) := HA3.out.res.cell 1
        have r2 : w3.cell? ⟨B + 1, 2, none⟩ = some (.int .i64 0) := HA3.out.res.cell 2
        have r3 : w3.cell? ⟨B + 1, 3, none⟩ = some (.slice none 0 0) := HA3.out.res.cell 3
        have r4 : w3.cell? ⟨B + 1, 4, none⟩ = some (.int .i64 0) := HA3.out.res.cell 4
        have rf0 : w3.frozen? ⟨B + 1, 0, none⟩ = false := HA3.out.res.froz 0
        have rf1 : w3.frozen? ⟨B + 1, 1, none⟩ = false := HA3.out.res.froz 1
        have rf2 : w3.frozen? ⟨B + 1, 2, none⟩ = false := HA3.out.res.froz 2
        have rf3 : w3.frozen? ⟨B + 1, 3, none⟩ = false := HA3.out.res.froz 3
        have rf4 : w3.frozen? ⟨B + 1, 4, none⟩ = false := HA3.out.res.froz 4
        go_wp2_with fail
        refine bodyPost_ret (v := .tuple #[.agg #[.int .i64 gK, .int .i64 xa, .int .i64 gb, .slice gao gn gc, .int .i64 n], str ([69, 114, 114, 83, 121, 110, 116, 97, 120])]) (by simp [results, Tryz.results8, go_sem, r0, r1, r2, r3, r4]) rfl ?_
        first | exact HA3.out.told hB HGN.out.1 HGN.out.2 HP.out rfl | exact (HA3.out.told hB HGN.out.1 HGN.out.2 HP.out rfl).drew
      | true =>
        by_cases z1 : z < -1073741824
        · have d1 : decide (z < -1073741824) = true := decide_eq_true z1
          have c0 : w3.cell? ⟨B, 0, none⟩ = some (.int .i64 gK) := HA3.out.dsk.cell 0
          have c1 : w3.cell? ⟨B, 1, none⟩ = some (.int .i64 xa) := HA3.out.dsk.cell 1
          have c2 : w3.cell? ⟨B, 2, none⟩ = some (.int .i64 gb) := HA3.out.dsk.cell 2
          have c3 : w3.cell? ⟨B, 3, none⟩ = some (.slice gao gn gc) := HA3.out.dsk.cell 3
          have c4 : w3.cell? ⟨B, 4, none⟩ = some (.int .i64 n) := HA3.out.dsk.cell 4
          have r0 : w3.cell? ⟨B + 1, 0, none⟩ = some (.int .i64 0) := HA3.out.res.cell 0
          have r1 : w3.cell? ⟨B + 1, 1, none⟩ = some (.int .i64 0) := HA3.out.res.cell 1
          have r2 : w3.cell? ⟨B + 1, 2, none⟩ = some (.int .i64 0) := HA3.out.res.cell 2
          have r3 : w3.cell? ⟨B + 1, 3, none⟩ = some (.slice none 0 0) := HA3.out.res.cell 3
          have r4 : w3.cell? ⟨B + 1, 4, none⟩ = some (.int .i64 0) := HA3.out.res.cell 4
          have rf0 : w3.frozen? ⟨B + 1, 0, none⟩ = false := HA3.out.res.froz 0
          have rf1 : w3.frozen? ⟨B + 1, 1, none⟩ = false := HA3.out.res.froz 1
          have rf2 : w3.frozen? ⟨B + 1, 2, none⟩ = false := HA3.out.res.froz 2
          have rf3 : w3.frozen? ⟨B + 1, 3, none⟩ = false := HA3.out.res.froz 3
          have rf4 : w3.frozen? ⟨B + 1, 4, none⟩ = false := HA3.out.res.froz 4
          go_wp2_with fail
          refine bodyPost_ret (v := .tuple #[.agg #[.int .i64 gK, .int .i64 xa, .int .i64 gb, .slice gao gn gc, .int .i64 n], str ([69, 114, 114, 83, 121, 110, 116, 97, 120])]) (by simp [results, Tryz.results8, go_sem, r0, r1, r2, r3, r4]) rfl ?_
          first | exact HA3.out.told hB HGN.out.1 HGN.out.2 HP.out rfl | exact (HA3.out.told hB HGN.out.1 HGN.out.2 HP.out rfl).drew
        · have d1 : decide (z < -1073741824) = false := decide_eq_false z1
          by_cases z2 : 1073741824 < z
          · have d2 : decide (1073741824 < z) = true := decide_eq_true z2
            have c0 : w3.cell? ⟨B, 0, none⟩ = some (.int .i64 gK) := HA3.out.dsk.cell 0
            have c1 : w3.cell? ⟨B, 1, none⟩ = some (.int .i64 xa) := HA3.out.dsk.cell 1
            have c2 : w3.cell? ⟨B, 2, none⟩ = some (.int .i64 gb) := HA3.out.dsk.cell 2
            have c3 : w3.cell? ⟨B, 3, none⟩ = some (.slice gao gn gc) := HA3.out.dsk.cell 3
            have c4 : w3.cell? ⟨B, 4, none⟩ = some (.int .i64 n) := HA3.out.dsk.cell 4
            have r0 : w3.cell? ⟨B + 1, 0, none⟩ = some (.int .i64 0) := HA3.out.res.cell 0
            have r1 : w3.cell? ⟨B + 1, 1, none⟩ = some (.int .i64 0) := HA3.out.res.cell 1
            have r2 : w3.cell? ⟨B + 1, 2, none⟩ = some (.int .i64 0) := HA3.out.res.cell 2
            have r3 : w3.cell? ⟨B + 1, 3, none⟩ = some (.slice none 0 0) := HA3.out.res.cell 3
            have r4 : w3.cell? ⟨B + 1, 4, none⟩ = some (.int .i64 0) := HA3.out.res.cell 4
            have rf0 : w3.frozen? ⟨B + 1, 0, none⟩ = false := HA3.out.res.froz 0
            have rf1 : w3.frozen? ⟨B + 1, 1, none⟩ = false := HA3.out.res.froz 1
            have rf2 : w3.frozen? ⟨B + 1, 2, none⟩ = false := HA3.out.res.froz 2
            have rf3 : w3.frozen? ⟨B + 1, 3, none⟩ = false := HA3.out.res.froz 3
            have rf4 : w3.frozen? ⟨B + 1, 4, none⟩ = false := HA3.out.res.froz 4
            go_wp2_with fail
            refine bodyPost_ret (v := .tuple #[.agg #[.int .i64 gK, .int .i64 xa, .int .i64 gb, .slice gao gn gc, .int .i64 n], str ([69, 114, 114, 83, 121, 110, 116, 97, 120])]) (by simp [results, Tryz.results8, go_sem, r0, r1, r2, r3, r4]) rfl ?_
            first | exact HA3.out.told hB HGN.out.1 HGN.out.2 HP.out rfl | exact (HA3.out.told hB HGN.out.1 HGN.out.2 HP.out rfl).drew
          · have d2 : decide (1073741824 < z) = false := decide_eq_false z2
            have HWV := Lib.hid (word_some (HNM.out.1 rfl) z1 z2)
            go_wp2_with (at_builtin; refine wpList_push2 _ rfl _ _ 48 rfl Q 3 i1 (.int .i64 0) 1 8 Tryz.underlying48 hj1 hy0 hy1 hy2 rfl (by decide) _ _ _ rfl (HLN3.out.row.alloc _) ⟨w3.heap.size, 0, none⟩ 1 [.int .i64 z] rfl rfl (World.news_of_block (cs := #[.int .i64 z]) (t := 3) (fr := (0, 0)) (heap_alloc_at _ _ rfl)) (one1 _ _) (by unfold maxLen; omega) (by omega) (by simp; omega) ?_)
            intro gq cap w7 hown hgr hat7
            have HJ7 := Lib.hid (show LN w1 w7 Q args (i + 1) (zs ++ [z]) (.slice (some ⟨gq, 0, none⟩) (zs.length + 1) cap) from by
              refine ⟨(HLN3.out.below.alloc HLN3.out.below.size (.cells #[.int .i64 z] 3)).grown hgr (by have := HLN3.out.below.size; simp; omega) (fun k hk => by have := (HLN3.out.row.lt k hk).1; have := HQ.out; omega), by rw [List.length_append, List.map_append]; exact hown, by rw [List.length_append]; have := HJ.out.len; simp; omega, fun j hj => ?_, by have := hgr.size; simp at this; omega⟩
              rw [List.length_append] at hj
              rcases Nat.lt_or_ge j zs.length with h | h
              · rw [HJ.out.all j h]
                simp [List.getD, List.getElem?_append_left h]
              · have hjz : j = zs.length := by simp at hj; omega
                subst hjz
                have hi : i - 1 = zs.length := by have := HJ.out.len; omega
                rw [← hi, ← HPP.out.1, HWV.out, hi]
                simp [List.getD])
            clear hown hgr hat7
            go_wp2_with fail
            go_roundw
            case rel => exact ⟨i + 1, zs ++ [z], by go_num, by omega, by omega, HJ7⟩
            case measure => simp [intOf]; omega
    · have hiN' : i = N := by omega
      subst hiN'
      have h0' : wr.cell? ⟨q, 0, none⟩ = some (str x0) := HCW.out wr HJ.out.below 0 (by omega)
      exfalso
      obtain ⟨p, hp, hpn⟩ := HBD.out
      obtain ⟨j, hj, rfl⟩ := List.mem_iff_getElem.1 hp
      have hz := HJ.out.len
      have hN := HN.out
      have h := HJ.out.all j (by omega)
      rw [List.getD, List.getElem?_eq_getElem hj, Option.getD_some, hpn] at h
      cases h
end Go.Proofs.YtalbllijahiiiaaGreatDoor
end

section
namespace Go.Proofs.YtalbllijahiiiaaGreatDoor
open Go.RowKit Go.Mine Go.Mine.Desk

theorem lits (x0 : Bytes) : ((x0 == [105, 110, 116]) = true ∧ (x0 == [109, 97, 110, 121]) = false ∧ (x0 == [108, 105, 109, 105, 116]) = false ∧ (x0 == [110, 116, 104]) = false ∧ (x0 == [114, 117, 110]) = false) ∨ ((x0 == [105, 110, 116]) = false ∧ (x0 == [109, 97, 110, 121]) = true ∧ (x0 == [108, 105, 109, 105, 116]) = false ∧ (x0 == [110, 116, 104]) = false ∧ (x0 == [114, 117, 110]) = false) ∨ ((x0 == [105, 110, 116]) = false ∧ (x0 == [109, 97, 110, 121]) = false ∧ (x0 == [108, 105, 109, 105, 116]) = true ∧ (x0 == [110, 116, 104]) = false ∧ (x0 == [114, 117, 110]) = false) ∨ ((x0 == [105, 110, 116]) = false ∧ (x0 == [109, 97, 110, 121]) = false ∧ (x0 == [108, 105, 109, 105, 116]) = false ∧ (x0 == [110, 116, 104]) = true ∧ (x0 == [114, 117, 110]) = false) ∨ ((x0 == [105, 110, 116]) = false ∧ (x0 == [109, 97, 110, 121]) = false ∧ (x0 == [108, 105, 109, 105, 116]) = false ∧ (x0 == [110, 116, 104]) = false ∧ (x0 == [114, 117, 110]) = true) ∨ ((x0 == [105, 110, 116]) = false ∧ (x0 == [109, 97, 110, 121]) = false ∧ (x0 == [108, 105, 109, 105, 116]) = false ∧ (x0 == [110, 116, 104]) = false ∧ (x0 == [114, 117, 110]) = false) := by
  by_cases h0 : x0 = kInt
  · subst h0
    exact .inl ⟨rfl, rfl, rfl, rfl, rfl⟩
  by_cases h1 : x0 = kMany
  · subst h1
    exact .inr (.inl ⟨rfl, rfl, rfl, rfl, rfl⟩)
  by_cases h2 : x0 = kLimit
  · subst h2
    exact .inr (.inr (.inl ⟨rfl, rfl, rfl, rfl, rfl⟩))
  by_cases h3 : x0 = kNth
  · subst h3
    exact .inr (.inr (.inr (.inl ⟨rfl, rfl, rfl, rfl, rfl⟩)))
  by_cases h4 : x0 = kRun
  · subst h4
    exact .inr (.inr (.inr (.inr (.inl ⟨rfl, rfl, rfl, rfl, rfl⟩))))
  exact .inr (.inr (.inr (.inr (.inr ⟨beq_eq_false_iff_ne.2 h0, beq_eq_false_iff_ne.2 h1, beq_eq_false_iff_ne.2 h2, beq_eq_false_iff_ne.2 h3, beq_eq_false_iff_ne.2 h4⟩))))
set_option maxRecDepth 100000 in
set_option maxHeartbeats 4000000 in
theorem ans_none1 (g : G) (n : Int) (hg : g.right) (hn : near n) (gK xa gb : Int) (gao : Option Addr) (gn gc : Nat) (s : Bytes) (hs : s.length ≤ 1100000) (x0 : Bytes) (args : List Bytes) (hw : cuts 32 s = x0 :: args) (hne : s ≠ kCount) (h1 : args.length = 1 → x0 ≠ kLimit ∧ x0 ≠ kNth ∧ x0 ≠ kShow ∧ x0 ≠ kLess) (h2 : args.length = 2 → x0 ≠ kInt ∧ x0 ≠ kRun) (h3 : args.length = 3 → x0 ≠ kMany) (hall : ∀ p ∈ args, wordV p ≠ none) (hq : args.length = 1) (w : World) (hv : GenAt w (.agg #[.int .i64 gK, .int .i64 xa, .int .i64 gb, .slice gao gn gc]) g) :
    Calls Tryz.prog 8 #[.agg #[.int .i64 gK, .int .i64 xa, .int .i64 gb, .slice gao gn gc, .int .i64 n], str s] w (AnsPost (lineR (g, n) s) w) := by
  have hsc : (s == [99, 111, 117, 110, 116]) = false := beq_eq_false_iff_ne.2 hne
  obtain ⟨w0, hw0⟩ : ∃ w0, w0 = (w.alloc (.cells #[.int .i64 gK, .int .i64 xa, .int .i64 gb, .slice gao gn gc, .int .i64 n] 30)).alloc (.cells #[.int .i64 0, .int .i64 0, .int .i64 0, .slice none 0 0, .int .i64 0] 30) := ⟨_, rfl⟩
  obtain ⟨B, hB⟩ : ∃ B, w.heap.size = B := ⟨_, rfl⟩
  have HA0 := Lib.hid (AN.start hB hv hw0)
  have HC := Lib.hid (show Calls Tryz.prog 7 #[str s, .int .u8 32] w0 (fun e w' => (∃ v, e = .returned v ∧ w'.ownsRow w0.heap.size 9 1 v (cuts 32 s).length ((cuts 32 s).map str)) ∧ Below w0.heap.size w0 w') from by
    have h := Cut_any s 32 hs w0
    rw [show (((32 : UInt8).toNat : Nat) : Int) = 32 from rfl] at h
    exact h)
  have HW := Lib.hid hw0
  have HGN := Lib.hid (And.intro hg hn)
  clear hw0 hv hg hn
  have bShow : (x0 == [115, 104, 111, 119]) = false := beq_eq_false_iff_ne.2 (h1 hq).2.2.1
  have bLess : (x0 == [108, 101, 115, 115]) = false := beq_eq_false_iff_ne.2 (h1 hq).2.2.2
  have HP := Lib.hid (show lineR (g, n) s = ([69, 114, 114, 83, 121, 110, 116, 97, 120], (g, n)) by
    unfold lineR
    rw [hw, words_none (fun h hx => hne (by rw [h, hx] at hw; exact cuts_single hw)) h1 h2 h3]
    rfl)
  have HALL := Lib.hid hall
  have HH := Lib.hid (And.intro h1 (And.intro h2 h3))
  have hN : args.length + 1 = 2 := by omega
  clear h1 h2 h3 hall hq
  rw [hw] at HC
  have HN := Lib.hid hN
  rw [List.length_cons, hN] at HC
  clear hne hw hs
  go_enter Tryz.func8, Tryz.ntmps8
  go_upto_region 1 with fail
  rw [← HW.out]
  go_wp2_with fail
  refine HC.out.mono ?_
  clear HC
  rintro e w1 ⟨⟨v, rfl, hown⟩, hb1⟩
  obtain ⟨ro, rc, rfl⟩ := owns_shape hown
  have HA1 := Lib.hid (HA0.out.on hb1)
  obtain ⟨q, rfl⟩ : ∃ q, ro = some ⟨q, 0, none⟩ := by
    rcases hown.2 with ⟨_, h0⟩ | ⟨q, cap, cur, h1, _⟩
    · omega
    · simp only [Value.slice.injEq] at h1
      exact ⟨q, h1.1⟩
  have HCW := Lib.hid (show ∀ W, Below w1.heap.size w1 W → ∀ j, j < 2 → W.cell? ⟨q, j, none⟩ = some (str ((x0 :: args).getD j [])) from fun W hb j hj => by
    have hj' : j < (x0 :: args).length := by rw [List.length_cons]; omega
    rw [hb.cell (hown.lt q rfl).2, hown.cellAt j (by omega)]
    simp only [List.getElem?_map, List.getD, List.getElem?_eq_getElem hj', Option.map_some, Option.getD_some])
  have h0 : w1.cell? ⟨q, 0, none⟩ = some (str x0) := HCW.out w1 (Below.refl _ _) 0 (by omega)
  obtain ⟨Q, hQ⟩ : ∃ Q, w1.heap.size = Q := ⟨_, rfl⟩
  have HL0 := Lib.hid (show LN w1 w1 Q args 1 [] (.slice none 0 0) from ⟨Below.refl _ _, World.ownsRow_nil _ _ _ _, rfl, fun j hj => by simp at hj, by omega⟩)
  have hQB : B + 1 + 1 ≤ Q := by rw [← hQ]; exact HA1.out.res.lt
  have HQ := Lib.hid hQ
  obtain ⟨i1, hj1, hy0, hy1, hy2⟩ := info_parts infoI3d
  clear hown hb1 hQ hN
  go_wp2_with fail
  go_loopw [12, 13, 14, 15] (fun nv iv _ _ wr => ∃ (i : Nat) (zs : List Int), iv = .int .i64 (i : Int) ∧ 1 ≤ i ∧ i ≤ 2 ∧ RowKit.Hid (LN w1 wr Q args i zs nv)) (fun _ iv _ _ _ => 2 - (intOf iv).toNat)
  case atStart => exact ⟨1, [], rfl, by omega, by omega, HL0⟩
  case round =>
    obtain ⟨i, zs, rfl, hi1', hiN, HJ⟩ := hrel
    have HA2 := Lib.hid (HA1.out.on HJ.out.below)
    rcases Nat.lt_or_ge i 2 with hlt | hge
    · have hcell := HCW.out wr HJ.out.below i hlt
      obtain ⟨p, hp⟩ : ∃ p, p = args.getD (i - 1) [] := ⟨_, rfl⟩
      have hpe : (x0 :: args).getD i [] = p := by
        obtain ⟨j, rfl⟩ : ∃ j, i = j + 1 := ⟨i - 1, by omega⟩
        rw [hp]; rfl
      have hmem : p ∈ args := by
        have hl : i - 1 < args.length := by have := HN.out; omega
        rw [hp, List.getD, List.getElem?_eq_getElem hl]
        exact List.getElem_mem hl
      rw [hpe] at hcell
      have HPP := Lib.hid (And.intro hp hmem)
      have hj0 : (0 : Int) ≤ (i : Int) := by omega
      have hj1' : (i : Int) < (2 : Int) := by omega
      have hw1 : IntKind.i64.wrap ((i : Int) + 1) = ((i + 1 : Nat) : Int) := by rw [IntWalk.i64_in _ (by omega)]; omega
      have HNW := Lib.hid (num_walk p wr)
      clear hp hpe hmem
      go_wp2_with fail
      refine HNW.out.mono ?_
      clear HNW hcell
      rintro e w3 ⟨⟨z, bb, rfl, h64, hnum⟩, hb3⟩
      have HA3 := Lib.hid (HA2.out.on hb3)
      have HNM := Lib.hid hnum
      have HLN3 := Lib.hid (show LN w1 w3 Q args i zs _ from ⟨HJ.out.below.trans (hb3.mono HJ.out.below.size), owns_below HJ.out.row hb3, HJ.out.len, HJ.out.all, Nat.le_trans HJ.out.size hb3.size⟩)
      have hzb : zs.length + 1 ≤ 2 := by have := HJ.out.len; omega
      have hsz3 := HLN3.out.size
      unfold i64ok at h64
      clear hnum hb3
      cases bb with
      | false =>
        exact absurd (word_none1 (HNM.out.2 rfl)) (HALL.out p HPP.out.2)
      | true =>
        by_cases z1 : z < -1073741824
        · have d1 : decide (z < -1073741824) = true := decide_eq_true z1
          exact absurd (word_none2 (HNM.out.1 rfl) (.inl z1)) (HALL.out p HPP.out.2)
        · have d1 : decide (z < -1073741824) = false := decide_eq_false z1
          by_cases z2 : 1073741824 < z
          · have d2 : decide (1073741824 < z) = true := decide_eq_true z2
            exact absurd (word_none2 (HNM.out.1 rfl) (.inr z2)) (HALL.out p HPP.out.2)
          · have d2 : decide (1073741824 < z) = false := decide_eq_false z2
            have HWV := Lib.hid (word_some (HNM.out.1 rfl) z1 z2)
            go_wp2_with (at_builtin; refine wpList_push2 _ rfl _ _ 48 rfl Q 3 i1 (.int .i64 0) 1 8 Tryz.underlying48 hj1 hy0 hy1 hy2 rfl (by decide) _ _ _ rfl (HLN3.out.row.alloc _) ⟨w3.heap.size, 0, none⟩ 1 [.int .i64 z] rfl rfl (World.news_of_block (cs := #[.int .i64 z]) (t := 3) (fr := (0, 0)) (heap_alloc_at _ _ rfl)) (one1 _ _) (by unfold maxLen; omega) (by omega) (by simp; omega) ?_)
            intro gq cap w7 hown hgr hat7
            have HJ7 := Lib.hid (show LN w1 w7 Q args (i + 1) (zs ++ [z]) (.slice (some ⟨gq, 0, none⟩) (zs.length + 1) cap) from by
              refine ⟨(HLN3.out.below.alloc HLN3.out.below.size (.cells #[.int .i64 z] 3)).grown hgr (by have := HLN3.out.below.size; simp; omega) (fun k hk => by have := (HLN3.out.row.lt k hk).1; have := HQ.out; omega), by rw [List.length_append, List.map_append]; exact hown, by rw [List.length_append]; have := HJ.out.len; simp; omega, fun j hj => ?_, by have := hgr.size; simp at this; omega⟩
              rw [List.length_append] at hj
              rcases Nat.lt_or_ge j zs.length with h | h
              · rw [HJ.out.all j h]
                simp [List.getD, List.getElem?_append_left h]
              · have hjz : j = zs.length := by simp at hj; omega
                subst hjz
                have hi : i - 1 = zs.length := by have := HJ.out.len; omega
                rw [← hi, ← HPP.out.1, HWV.out, hi]
                simp [List.getD])
            clear hown hgr hat7
            go_wp2_with fail
            go_roundw
            case rel => exact ⟨i + 1, zs ++ [z], by go_num, by omega, by omega, HJ7⟩
            case measure => simp [intOf]; omega
    · have hiN' : i = 2 := by omega
      subst hiN'
      have h0' : wr.cell? ⟨q, 0, none⟩ = some (str x0) := HCW.out wr HJ.out.below 0 (by omega)
      obtain ⟨no, nc, rfl⟩ := owns_shape HJ.out.row
      obtain ⟨M, hM⟩ : ∃ M, zs.length = M := ⟨_, rfl⟩
      have hMN : M = args.length := by have h1 := HJ.out.len; have h2 := HN.out; omega
      rw [hM]
      clear hM
      have c0 : wr.cell? ⟨B, 0, none⟩ = some (.int .i64 gK) := HA2.out.dsk.cell 0
      have c1 : wr.cell? ⟨B, 1, none⟩ = some (.int .i64 xa) := HA2.out.dsk.cell 1
      have c2 : wr.cell? ⟨B, 2, none⟩ = some (.int .i64 gb) := HA2.out.dsk.cell 2
      have c3 : wr.cell? ⟨B, 3, none⟩ = some (.slice gao gn gc) := HA2.out.dsk.cell 3
      have c4 : wr.cell? ⟨B, 4, none⟩ = some (.int .i64 n) := HA2.out.dsk.cell 4
      have r0 : wr.cell? ⟨B + 1, 0, none⟩ = some (.int .i64 0) := HA2.out.res.cell 0
      have r1 : wr.cell? ⟨B + 1, 1, none⟩ = some (.int .i64 0) := HA2.out.res.cell 1
      have r2 : wr.cell? ⟨B + 1, 2, none⟩ = some (.int .i64 0) := HA2.out.res.cell 2
      have r3 : wr.cell? ⟨B + 1, 3, none⟩ = some (.slice none 0 0) := HA2.out.res.cell 3
      have r4 : wr.cell? ⟨B + 1, 4, none⟩ = some (.int .i64 0) := HA2.out.res.cell 4
      have rf0 : wr.frozen? ⟨B + 1, 0, none⟩ = false := HA2.out.res.froz 0
      have rf1 : wr.frozen? ⟨B + 1, 1, none⟩ = false := HA2.out.res.froz 1
      have rf2 : wr.frozen? ⟨B + 1, 2, none⟩ = false := HA2.out.res.froz 2
      have rf3 : wr.frozen? ⟨B + 1, 3, none⟩ = false := HA2.out.res.froz 3
      have rf4 : wr.frozen? ⟨B + 1, 4, none⟩ = false := HA2.out.res.froz 4
      rcases lits x0 with ⟨b1, b2, b3, b4, b5⟩ | ⟨b1, b2, b3, b4, b5⟩ | ⟨b1, b2, b3, b4, b5⟩ | ⟨b1, b2, b3, b4, b5⟩ | ⟨b1, b2, b3, b4, b5⟩ | ⟨b1, b2, b3, b4, b5⟩
      · have hk : M ≠ 2 := fun h => by
          have hl : args.length = 2 := by omega
          exact (HH.out.2.1 hl).1 (eq_of_beq b1)
        have hk2 : ¬ (M : Int) = 2 := by omega
        have hk3 : ((M : Int) == 2) = false := by rw [beq_eq_false_iff_ne]; omega
        clear hMN
        go_wp2_with fail
        refine bodyPost_ret (v := .tuple #[.agg #[.int .i64 gK, .int .i64 xa, .int .i64 gb, .slice gao gn gc, .int .i64 n], str ([69, 114, 114, 83, 121, 110, 116, 97, 120])]) (by simp [results, Tryz.results8, go_sem, r0, r1, r2, r3, r4]) rfl ?_
        first | exact HA2.out.told hB HGN.out.1 HGN.out.2 HP.out rfl | exact (HA2.out.told hB HGN.out.1 HGN.out.2 HP.out rfl).drew
      · have hk : M ≠ 3 := fun h => by
          have hl : args.length = 3 := by omega
          exact HH.out.2.2 hl (eq_of_beq b2)
        have hk2 : ¬ (M : Int) = 3 := by omega
        have hk3 : ((M : Int) == 3) = false := by rw [beq_eq_false_iff_ne]; omega
        clear hMN
        go_wp2_with fail
        refine bodyPost_ret (v := .tuple #[.agg #[.int .i64 gK, .int .i64 xa, .int .i64 gb, .slice gao gn gc, .int .i64 n], str ([69, 114, 114, 83, 121, 110, 116, 97, 120])]) (by simp [results, Tryz.results8, go_sem, r0, r1, r2, r3, r4]) rfl ?_
        first | exact HA2.out.told hB HGN.out.1 HGN.out.2 HP.out rfl | exact (HA2.out.told hB HGN.out.1 HGN.out.2 HP.out rfl).drew
      · have hk : M ≠ 1 := fun h => by
          have hl : args.length = 1 := by omega
          exact (HH.out.1 hl).1 (eq_of_beq b3)
        have hk2 : ¬ (M : Int) = 1 := by omega
        have hk3 : ((M : Int) == 1) = false := by rw [beq_eq_false_iff_ne]; omega
        clear hMN
        go_wp2_with fail
        refine bodyPost_ret (v := .tuple #[.agg #[.int .i64 gK, .int .i64 xa, .int .i64 gb, .slice gao gn gc, .int .i64 n], str ([69, 114, 114, 83, 121, 110, 116, 97, 120])]) (by simp [results, Tryz.results8, go_sem, r0, r1, r2, r3, r4]) rfl ?_
        first | exact HA2.out.told hB HGN.out.1 HGN.out.2 HP.out rfl | exact (HA2.out.told hB HGN.out.1 HGN.out.2 HP.out rfl).drew
      · have hk : M ≠ 1 := fun h => by
          have hl : args.length = 1 := by omega
          exact (HH.out.1 hl).2.1 (eq_of_beq b4)
        have hk2 : ¬ (M : Int) = 1 := by omega
        have hk3 : ((M : Int) == 1) = false := by rw [beq_eq_false_iff_ne]; omega
        clear hMN
        go_wp2_with fail
        refine bodyPost_ret (v := .tuple #[.agg #[.int .i64 gK, .int .i64 xa, .int .i64 gb, .slice gao gn gc, .int .i64 n], str ([69, 114, 114, 83, 121, 110, 116, 97, 120])]) (by simp [results, Tryz.results8, go_sem, r0, r1, r2, r3, r4]) rfl ?_
        first | exact HA2.out.told hB HGN.out.1 HGN.out.2 HP.out rfl | exact (HA2.out.told hB HGN.out.1 HGN.out.2 HP.out rfl).drew
      · have hk : M ≠ 2 := fun h => by
          have hl : args.length = 2 := by omega
          exact (HH.out.2.1 hl).2 (eq_of_beq b5)
        have hk2 : ¬ (M : Int) = 2 := by omega
        have hk3 : ((M : Int) == 2) = false := by rw [beq_eq_false_iff_ne]; omega
        clear hMN
        go_wp2_with fail
        refine bodyPost_ret (v := .tuple #[.agg #[.int .i64 gK, .int .i64 xa, .int .i64 gb, .slice gao gn gc, .int .i64 n], str ([69, 114, 114, 83, 121, 110, 116, 97, 120])]) (by simp [results, Tryz.results8, go_sem, r0, r1, r2, r3, r4]) rfl ?_
        first | exact HA2.out.told hB HGN.out.1 HGN.out.2 HP.out rfl | exact (HA2.out.told hB HGN.out.1 HGN.out.2 HP.out rfl).drew
      · clear hMN
        go_wp2_with fail
        refine bodyPost_ret (v := .tuple #[.agg #[.int .i64 gK, .int .i64 xa, .int .i64 gb, .slice gao gn gc, .int .i64 n], str ([69, 114, 114, 83, 121, 110, 116, 97, 120])]) (by simp [results, Tryz.results8, go_sem, r0, r1, r2, r3, r4]) rfl ?_
        first | exact HA2.out.told hB HGN.out.1 HGN.out.2 HP.out rfl | exact (HA2.out.told hB HGN.out.1 HGN.out.2 HP.out rfl).drew
set_option maxRecDepth 100000 in
set_option maxHeartbeats 4000000 in
theorem ans_none2 (g : G) (n : Int) (hg : g.right) (hn : near n) (gK xa gb : Int) (gao : Option Addr) (gn gc : Nat) (s : Bytes) (hs : s.length ≤ 1100000) (x0 : Bytes) (args : List Bytes) (hw : cuts 32 s = x0 :: args) (hne : s ≠ kCount) (h1 : args.length = 1 → x0 ≠ kLimit ∧ x0 ≠ kNth ∧ x0 ≠ kShow ∧ x0 ≠ kLess) (h2 : args.length = 2 → x0 ≠ kInt ∧ x0 ≠ kRun) (h3 : args.length = 3 → x0 ≠ kMany) (hall : ∀ p ∈ args, wordV p ≠ none) (hq : args.length ≠ 1) (w : World) (hv : GenAt w (.agg #[.int .i64 gK, .int .i64 xa, .int .i64 gb, .slice gao gn gc]) g) :
    Calls Tryz.prog 8 #[.agg #[.int .i64 gK, .int .i64 xa, .int .i64 gb, .slice gao gn gc, .int .i64 n], str s] w (AnsPost (lineR (g, n) s) w) := by
  have hsc : (s == [99, 111, 117, 110, 116]) = false := beq_eq_false_iff_ne.2 hne
  obtain ⟨w0, hw0⟩ : ∃ w0, w0 = (w.alloc (.cells #[.int .i64 gK, .int .i64 xa, .int .i64 gb, .slice gao gn gc, .int .i64 n] 30)).alloc (.cells #[.int .i64 0, .int .i64 0, .int .i64 0, .slice none 0 0, .int .i64 0] 30) := ⟨_, rfl⟩
  obtain ⟨B, hB⟩ : ∃ B, w.heap.size = B := ⟨_, rfl⟩
  have HA0 := Lib.hid (AN.start hB hv hw0)
  have HC := Lib.hid (show Calls Tryz.prog 7 #[str s, .int .u8 32] w0 (fun e w' => (∃ v, e = .returned v ∧ w'.ownsRow w0.heap.size 9 1 v (cuts 32 s).length ((cuts 32 s).map str)) ∧ Below w0.heap.size w0 w') from by
    have h := Cut_any s 32 hs w0
    rw [show (((32 : UInt8).toNat : Nat) : Int) = 32 from rfl] at h
    exact h)
  have HW := Lib.hid hw0
  have HGN := Lib.hid (And.intro hg hn)
  clear hw0 hv hg hn
  have HP := Lib.hid (show lineR (g, n) s = ([69, 114, 114, 83, 121, 110, 116, 97, 120], (g, n)) by
    unfold lineR
    rw [hw, words_none (fun h hx => hne (by rw [h, hx] at hw; exact cuts_single hw)) h1 h2 h3]
    rfl)
  have HALL := Lib.hid hall
  have HH := Lib.hid (And.intro h1 (And.intro h2 h3))
  obtain ⟨N, hN⟩ : ∃ N, args.length + 1 = N := ⟨_, rfl⟩
  have hNb : N ≤ 1100001 := by have h := cuts_length 32 s; rw [hw, List.length_cons] at h; omega
  have hN2 : ¬ N = 2 := by omega
  have hN3 : ¬ (N : Int) = 2 := by omega
  have hN4 : ((N : Int) == 2) = false := by rw [beq_eq_false_iff_ne]; omega
  have hN1 : 1 ≤ N := by omega
  clear h1 h2 h3 hall hq
  rw [hw] at HC
  have HN := Lib.hid hN
  rw [List.length_cons, hN] at HC
  clear hne hw hs
  go_enter Tryz.func8, Tryz.ntmps8
  go_upto_region 1 with fail
  rw [← HW.out]
  go_wp2_with fail
  refine HC.out.mono ?_
  clear HC
  rintro e w1 ⟨⟨v, rfl, hown⟩, hb1⟩
  obtain ⟨ro, rc, rfl⟩ := owns_shape hown
  have HA1 := Lib.hid (HA0.out.on hb1)
  obtain ⟨q, rfl⟩ : ∃ q, ro = some ⟨q, 0, none⟩ := by
    rcases hown.2 with ⟨_, h0⟩ | ⟨q, cap, cur, h1, _⟩
    · omega
    · simp only [Value.slice.injEq] at h1
      exact ⟨q, h1.1⟩
  have HCW := Lib.hid (show ∀ W, Below w1.heap.size w1 W → ∀ j, j < N → W.cell? ⟨q, j, none⟩ = some (str ((x0 :: args).getD j [])) from fun W hb j hj => by
    have hj' : j < (x0 :: args).length := by rw [List.length_cons]; omega
    rw [hb.cell (hown.lt q rfl).2, hown.cellAt j (by omega)]
    simp only [List.getElem?_map, List.getD, List.getElem?_eq_getElem hj', Option.map_some, Option.getD_some])
  have h0 : w1.cell? ⟨q, 0, none⟩ = some (str x0) := HCW.out w1 (Below.refl _ _) 0 (by omega)
  obtain ⟨Q, hQ⟩ : ∃ Q, w1.heap.size = Q := ⟨_, rfl⟩
  have HL0 := Lib.hid (show LN w1 w1 Q args 1 [] (.slice none 0 0) from ⟨Below.refl _ _, World.ownsRow_nil _ _ _ _, rfl, fun j hj => by simp at hj, by omega⟩)
  have hQB : B + 1 + 1 ≤ Q := by rw [← hQ]; exact HA1.out.res.lt
  have HQ := Lib.hid hQ
  obtain ⟨i1, hj1, hy0, hy1, hy2⟩ := info_parts infoI3d
  clear hown hb1 hQ hN
  go_wp2_with fail
  go_loopw [12, 13, 14, 15] (fun nv iv _ _ wr => ∃ (i : Nat) (zs : List Int), iv = .int .i64 (i : Int) ∧ 1 ≤ i ∧ i ≤ N ∧ RowKit.Hid (LN w1 wr Q args i zs nv)) (fun _ iv _ _ _ => N - (intOf iv).toNat)
  case atStart => exact ⟨1, [], rfl, by omega, by omega, HL0⟩
  case round =>
    obtain ⟨i, zs, rfl, hi1', hiN, HJ⟩ := hrel
    have HA2 := Lib.hid (HA1.out.on HJ.out.below)
    rcases Nat.lt_or_ge i N with hlt | hge
    · have hcell := HCW.out wr HJ.out.below i hlt
      obtain ⟨p, hp⟩ : ∃ p, p = args.getD (i - 1) [] := ⟨_, rfl⟩
      have hpe : (x0 :: args).getD i [] = p := by
        obtain ⟨j, rfl⟩ : ∃ j, i = j + 1 := ⟨i - 1, by omega⟩
        rw [hp]; rfl
      have hmem : p ∈ args := by
        have hl : i - 1 < args.length := by have := HN.out; omega
        rw [hp, List.getD, List.getElem?_eq_getElem hl]
        exact List.getElem_mem hl
      rw [hpe] at hcell
      have HPP := Lib.hid (And.intro hp hmem)
      have hj0 : (0 : Int) ≤ (i : Int) := by omega
      have hj1' : (i : Int) < (N : Int) := by omega
      have hw1 : IntKind.i64.wrap ((i : Int) + 1) = ((i + 1 : Nat) : Int) := by rw [IntWalk.i64_in _ (by omega)]; omega
      have HNW := Lib.hid (num_walk p wr)
      clear hp hpe hmem
      go_wp2_with fail
      refine HNW.out.mono ?_
      clear HNW hcell
      rintro e w3 ⟨⟨z, bb, rfl, h64, hnum⟩, hb3⟩
      have HA3 := Lib.hid (HA2.out.on hb3)
      have HNM := Lib.hid hnum
      have HLN3 := Lib.hid (show LN w1 w3 Q args i zs _ from ⟨HJ.out.below.trans (hb3.mono HJ.out.below.size), owns_below HJ.out.row hb3, HJ.out.len, HJ.out.all, Nat.le_trans HJ.out.size hb3.size⟩)
      have hzb : zs.length + 1 ≤ N := by have := HJ.out.len; omega
      have hsz3 := HLN3.out.size
      unfold i64ok at h64
      clear hnum hb3
      cases bb with
      | false =>
        exact absurd (word_none1 (HNM.out.2 rfl)) (HALL.out p HPP.out.2)
      | true =>
        by_cases z1 : z < -1073741824
        · have d1 : decide (z < -1073741824) = true := decide_eq_true z1
          exact absurd (word_none2 (HNM.out.1 rfl) (.inl z1)) (HALL.out p HPP.out.2)
        · have d1 : decide (z < -1073741824) = false := decide_eq_false z1
          by_cases z2 : 1073741824 < z
          · have d2 : decide (1073741824 < z) = true := decide_eq_true z2
            exact absurd (word_none2 (HNM.out.1 rfl) (.inr z2)) (HALL.out p HPP.out.2)
          · have d2 : decide (1073741824 < z) = false := decide_eq_false z2
            have HWV := Lib.hid (word_some (HNM.out.1 rfl) z1 z2)
            go_wp2_with (at_builtin; refine wpList_push2 _ rfl _ _ 48 rfl Q 3 i1 (.int .i64 0) 1 8 Tryz.underlying48 hj1 hy0 hy1 hy2 rfl (by decide) _ _ _ rfl (HLN3.out.row.alloc _) ⟨w3.heap.size, 0, none⟩ 1 [.int .i64 z] rfl rfl (World.news_of_block (cs := #[.int .i64 z]) (t := 3) (fr := (0, 0)) (heap_alloc_at _ _ rfl)) (one1 _ _) (by unfold maxLen; omega) (by omega) (by simp; omega) ?_)
            intro gq cap w7 hown hgr hat7
            have HJ7 := Lib.hid (show LN w1 w7 Q args (i + 1) (zs ++ [z]) (.slice (some ⟨gq, 0, none⟩) (zs.length + 1) cap) from by
              refine ⟨(HLN3.out.below.alloc HLN3.out.below.size (.cells #[.int .i64 z] 3)).grown hgr (by have := HLN3.out.below.size; simp; omega) (fun k hk => by have := (HLN3.out.row.lt k hk).1; have := HQ.out; omega), by rw [List.length_append, List.map_append]; exact hown, by rw [List.length_append]; have := HJ.out.len; simp; omega, fun j hj => ?_, by have := hgr.size; simp at this; omega⟩
              rw [List.length_append] at hj
              rcases Nat.lt_or_ge j zs.length with h | h
              · rw [HJ.out.all j h]
                simp [List.getD, List.getElem?_append_left h]
              · have hjz : j = zs.length := by simp at hj; omega
                subst hjz
                have hi : i - 1 = zs.length := by have := HJ.out.len; omega
                rw [← hi, ← HPP.out.1, HWV.out, hi]
                simp [List.getD])
            clear hown hgr hat7
            go_wp2_with fail
            go_roundw
            case rel => exact ⟨i + 1, zs ++ [z], by go_num, by omega, by omega, HJ7⟩
            case measure => simp [intOf]; omega
    · have hiN' : i = N := by omega
      subst hiN'
      have h0' : wr.cell? ⟨q, 0, none⟩ = some (str x0) := HCW.out wr HJ.out.below 0 (by omega)
      obtain ⟨no, nc, rfl⟩ := owns_shape HJ.out.row
      obtain ⟨M, hM⟩ : ∃ M, zs.length = M := ⟨_, rfl⟩
      have hMN : M = args.length := by have h1 := HJ.out.len; have h2 := HN.out; omega
      rw [hM]
      clear hM
      have c0 : wr.cell? ⟨B, 0, none⟩ = some (.int .i64 gK) := HA2.out.dsk.cell 0
      have c1 : wr.cell? ⟨B, 1, none⟩ = some (.int .i64 xa) := HA2.out.dsk.cell 1
      have c2 : wr.cell? ⟨B, 2, none⟩ = some (.int .i64 gb) := HA2.out.dsk.cell 2
      have c3 : wr.cell? ⟨B, 3, none⟩ = some (.slice gao gn gc) := HA2.out.dsk.cell 3
      have c4 : wr.cell? ⟨B, 4, none⟩ = some (.int .i64 n) := HA2.out.dsk.cell 4
      have r0 : wr.cell? ⟨B + 1, 0, none⟩ = some (.int .i64 0) := HA2.out.res.cell 0
      have r1 : wr.cell? ⟨B + 1, 1, none⟩ = some (.int .i64 0) := HA2.out.res.cell 1
      have r2 : wr.cell? ⟨B + 1, 2, none⟩ = some (.int .i64 0) := HA2.out.res.cell 2
      have r3 : wr.cell? ⟨B + 1, 3, none⟩ = some (.slice none 0 0) := HA2.out.res.cell 3
      have r4 : wr.cell? ⟨B + 1, 4, none⟩ = some (.int .i64 0) := HA2.out.res.cell 4
      have rf0 : wr.frozen? ⟨B + 1, 0, none⟩ = false := HA2.out.res.froz 0
      have rf1 : wr.frozen? ⟨B + 1, 1, none⟩ = false := HA2.out.res.froz 1
      have rf2 : wr.frozen? ⟨B + 1, 2, none⟩ = false := HA2.out.res.froz 2
      have rf3 : wr.frozen? ⟨B + 1, 3, none⟩ = false := HA2.out.res.froz 3
      have rf4 : wr.frozen? ⟨B + 1, 4, none⟩ = false := HA2.out.res.froz 4
      rcases lits x0 with ⟨b1, b2, b3, b4, b5⟩ | ⟨b1, b2, b3, b4, b5⟩ | ⟨b1, b2, b3, b4, b5⟩ | ⟨b1, b2, b3, b4, b5⟩ | ⟨b1, b2, b3, b4, b5⟩ | ⟨b1, b2, b3, b4, b5⟩
      · have hk : M ≠ 2 := fun h => by
          have hl : args.length = 2 := by omega
          exact (HH.out.2.1 hl).1 (eq_of_beq b1)
        have hk2 : ¬ (M : Int) = 2 := by omega
        have hk3 : ((M : Int) == 2) = false := by rw [beq_eq_false_iff_ne]; omega
        clear hMN
        go_wp2_with fail
        refine bodyPost_ret (v := .tuple #[.agg #[.int .i64 gK, .int .i64 xa, .int .i64 gb, .slice gao gn gc, .int .i64 n], str ([69, 114, 114, 83, 121, 110, 116, 97, 120])]) (by simp [results, Tryz.results8, go_sem, r0, r1, r2, r3, r4]) rfl ?_
        first | exact HA2.out.told hB HGN.out.1 HGN.out.2 HP.out rfl | exact (HA2.out.told hB HGN.out.1 HGN.out.2 HP.out rfl).drew
      · have hk : M ≠ 3 := fun h => by
          have hl : args.length = 3 := by omega
          exact HH.out.2.2 hl (eq_of_beq b2)
        have hk2 : ¬ (M : Int) = 3 := by omega
        have hk3 : ((M : Int) == 3) = false := by rw [beq_eq_false_iff_ne]; omega
        clear hMN
        go_wp2_with fail
        refine bodyPost_ret (v := .tuple #[.agg #[.int .i64 gK, .int .i64 xa, .int .i64 gb, .slice gao gn gc, .int .i64 n], str ([69, 114, 114, 83, 121, 110, 116, 97, 120])]) (by simp [results, Tryz.results8, go_sem, r0, r1, r2, r3, r4]) rfl ?_
        first | exact HA2.out.told hB HGN.out.1 HGN.out.2 HP.out rfl | exact (HA2.out.told hB HGN.out.1 HGN.out.2 HP.out rfl).drew
      · have hk : M ≠ 1 := fun h => by
          have hl : args.length = 1 := by omega
          exact (HH.out.1 hl).1 (eq_of_beq b3)
        have hk2 : ¬ (M : Int) = 1 := by omega
        have hk3 : ((M : Int) == 1) = false := by rw [beq_eq_false_iff_ne]; omega
        clear hMN
        go_wp2_with fail
        refine bodyPost_ret (v := .tuple #[.agg #[.int .i64 gK, .int .i64 xa, .int .i64 gb, .slice gao gn gc, .int .i64 n], str ([69, 114, 114, 83, 121, 110, 116, 97, 120])]) (by simp [results, Tryz.results8, go_sem, r0, r1, r2, r3, r4]) rfl ?_
        first | exact HA2.out.told hB HGN.out.1 HGN.out.2 HP.out rfl | exact (HA2.out.told hB HGN.out.1 HGN.out.2 HP.out rfl).drew
      · have hk : M ≠ 1 := fun h => by
          have hl : args.length = 1 := by omega
          exact (HH.out.1 hl).2.1 (eq_of_beq b4)
        have hk2 : ¬ (M : Int) = 1 := by omega
        have hk3 : ((M : Int) == 1) = false := by rw [beq_eq_false_iff_ne]; omega
        clear hMN
        go_wp2_with fail
        refine bodyPost_ret (v := .tuple #[.agg #[.int .i64 gK, .int .i64 xa, .int .i64 gb, .slice gao gn gc, .int .i64 n], str ([69, 114, 114, 83, 121, 110, 116, 97, 120])]) (by simp [results, Tryz.results8, go_sem, r0, r1, r2, r3, r4]) rfl ?_
        first | exact HA2.out.told hB HGN.out.1 HGN.out.2 HP.out rfl | exact (HA2.out.told hB HGN.out.1 HGN.out.2 HP.out rfl).drew
      · have hk : M ≠ 2 := fun h => by
          have hl : args.length = 2 := by omega
          exact (HH.out.2.1 hl).2 (eq_of_beq b5)
        have hk2 : ¬ (M : Int) = 2 := by omega
        have hk3 : ((M : Int) == 2) = false := by rw [beq_eq_false_iff_ne]; omega
        clear hMN
        go_wp2_with fail
        refine bodyPost_ret (v := .tuple #[.agg #[.int .i64 gK, .int .i64 xa, .int .i64 gb, .slice gao gn gc, .int .i64 n], str ([69, 114, 114, 83, 121, 110, 116, 97, 120])]) (by simp [results, Tryz.results8, go_sem, r0, r1, r2, r3, r4]) rfl ?_
        first | exact HA2.out.told hB HGN.out.1 HGN.out.2 HP.out rfl | exact (HA2.out.told hB HGN.out.1 HGN.out.2 HP.out rfl).drew
      · clear hMN
        go_wp2_with fail
        refine bodyPost_ret (v := .tuple #[.agg #[.int .i64 gK, .int .i64 xa, .int .i64 gb, .slice gao gn gc, .int .i64 n], str ([69, 114, 114, 83, 121, 110, 116, 97, 120])]) (by simp [results, Tryz.results8, go_sem, r0, r1, r2, r3, r4]) rfl ?_
        first | exact HA2.out.told hB HGN.out.1 HGN.out.2 HP.out rfl | exact (HA2.out.told hB HGN.out.1 HGN.out.2 HP.out rfl).drew
end Go.Proofs.YtalbllijahiiiaaGreatDoor
end
