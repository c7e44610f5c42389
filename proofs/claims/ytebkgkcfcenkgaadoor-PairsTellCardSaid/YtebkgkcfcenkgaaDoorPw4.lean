/- pairs.next. No conditions. -/
import Derived.Test.YtebkgkcfcenkgaaDoorPw3
import Derived.Test.YtebkgkcfcenkgaaDoorRep
import Derived.BigRegion
namespace Go.Mine.Pw
/-- A row in work: what is set is right, up to place a all is. -/
structure Part (L : List Int) (p row : List Int) (a : Nat) : Prop where
  len : row.length = L.length
  part : ∀ j, j < L.length → row.getD j 0 = -1 ∨ (0 ≤ row.getD j 0 ∧ row.getD j 0 < L.getD j 0)
  done : ∀ j, j < a → 0 ≤ row.getD j 0
  has : hasP row p = true
theorem getD_set (row : List Int) (i j : Nat) (z : Int) (hi : i < row.length) : (row.set i z).getD j 0 = if i = j then z else row.getD j 0 := by
  simp only [List.getD_eq_getElem?_getD, List.getElem?_set]
  by_cases h : i = j
  · subst h; simp [hi]
  · simp [h]
theorem Part.skip {L p row : List Int} {a : Nat} (h : Part L p row a) (h0 : 0 ≤ row.getD a 0) : Part L p row (a + 1) :=
  ⟨h.len, h.part, fun j hj => by
    by_cases e : j = a
    · rw [e]; exact h0
    · exact h.done j (by omega), h.has⟩
theorem Part.put {L row : List Int} {pa px pb py a : Nat} (h : Part L (four pa px pb py) row a) (ha : a < L.length) (h0 : row.getD a 0 < 0) {z : Int} (hz : 0 ≤ z) (hzl : z < L.getD a 0) : Part L (four pa px pb py) (row.set a z) (a + 1) := by
  have hal : a < row.length := by rw [h.len]; exact ha
  have hh := hasP_four.1 h.has
  refine ⟨by rw [List.length_set]; exact h.len, fun j hj => ?_, fun j hj => ?_, hasP_four.2 ⟨?_, ?_⟩⟩
  · rw [getD_set row a j z hal]
    split
    · rename_i e; subst e; exact .inr ⟨hz, hzl⟩
    · exact h.part j hj
  · rw [getD_set row a j z hal]
    split
    · exact hz
    · exact h.done j (by omega)
  · rw [getD_set row a pa z hal]
    split
    · rename_i e; subst e; rw [hh.1] at h0; omega
    · exact hh.1
  · rw [getD_set row a pb z hal]
    split
    · rename_i e; subst e; rw [hh.2] at h0; omega
    · exact hh.2
theorem Part.ok {L p row : List Int} (h : Part L p row L.length) : okRow L row :=
  ⟨h.len, fun j hj => by
    have h1 := h.done j hj
    rcases h.part j hj with h2 | h2
    · omega
    · exact h2⟩
theorem Part.start {L : List Int} {pa px pb py n : Nat} (hn : L.length = n) (hab : pa < pb) (hb : pb < n) (hx : px < lv L pa) (hy : py < lv L pb) (hL : okL L) : Part L (four pa px pb py) (((List.replicate n (-1 : Int)).set pa px).set pb py) 0 := by
  have g : ∀ j, ((((List.replicate n (-1 : Int)).set pa px).set pb py)).getD j 0 = if pb = j then (py : Int) else if pa = j then (px : Int) else (List.replicate n (-1 : Int)).getD j 0 := fun j => by
    rw [getD_set _ _ _ _ (by simp; omega), getD_set _ _ _ _ (by simp; omega)]
  refine ⟨by simp [hn], fun j hj => ?_, fun j hj => by omega, hasP_four.2 ⟨?_, ?_⟩⟩
  · rw [g]
    split
    · rename_i e; subst e; have := (hL.lv hj).1; omega
    · split
      · rename_i e; subst e; have := (hL.lv hj).1; omega
      · left; simp [List.getD, show j < n by omega]
  · rw [g, if_neg (by omega), if_pos rfl]
  · rw [g, if_pos rfl]
end Go.Mine.Pw
namespace Go.Proofs.YtebkgkcfcenkgaaDoor
open Go.RowKit Go.Mine Go.Mine.Pw

set_option maxHeartbeats 2000000 in
set_option maxRecDepth 100000 in
theorem next_any (L : List Int) (op : List (List Int)) (lo oo : Option Addr) (lc oc : Nat) (W : World) (hx : IntsAt .i64 W lo L) (hok : okL L) (hf : FoursAt W oo op) (hmem : ∀ p ∈ op, p ∈ allP L) (h0 : 0 < op.length) (hol : op.length ≤ 3600) :
    Calls Tryd.prog 15 #[.slice lo L.length lc, .slice oo op.length oc] W fun e w' => ∃ (g : Nat) (row : List Int), e = .returned (.slice (some ⟨g, 0, none⟩) L.length L.length) ∧ w'.ownsRow W.heap.size 3 1 (.slice (some ⟨g, 0, none⟩) L.length L.length) L.length (row.map (Value.int .i64)) ∧ okRow L row ∧ hasP row (op.getD 0 []) = true ∧ Below W.heap.size W w' := by
  obtain ⟨pa, px, pb, py, hp, hpab, hpb, hpx, hpy⟩ := mem_all.1 (hmem (op.getD 0 []) (by simp [h0]))
  obtain ⟨bo, off, rfl, hpc⟩ := hf 0 h0
  rw [hp] at hpc ⊢
  have hpc0 := hpc 0 (by omega)
  have hpc1 := hpc 1 (by omega)
  have hpc2 := hpc 2 (by omega)
  have hpc3 := hpc 3 (by omega)
  simp only [four, List.getD_cons_zero, List.getD_cons_succ, Nat.zero_mul, Nat.add_zero] at hpc0 hpc1 hpc2 hpc3
  have HX := Lib.hid (fun (w : World) (h : Below W.heap.size W w) => hx.below (Nat.le_refl _) h)
  have HF := Lib.hid (fun (w : World) (h : Below W.heap.size W w) => hf.below (Nat.le_refl _) h)
  have HOK := Lib.hid hok
  have HM := Lib.hid hmem
  have h12 := hok.1
  obtain ⟨n, hn⟩ : ∃ n, L.length = n := ⟨_, rfl⟩
  rw [hn] at h12 hpb ⊢
  obtain ⟨w1, hw1⟩ : ∃ w1, w1 = W.alloc (.cells #[.int .i64 (-1)] 3) := ⟨_, rfl⟩
  have hb1 : Below W.heap.size W w1 := by rw [hw1]; exact (Below.refl _ _).alloc (Nat.le_refl _) _
  have hs1 : w1.heap.size = W.heap.size + 1 := by rw [hw1]; simp
  have HR := Lib.hid (repeat_any (-1) n W.heap.size w1 h12 (by rw [hw1, cell_of_row _ _ 0 _ _ _ (heap_alloc_new W (.cells #[.int .i64 (-1)] 3))]; rfl))
  have HPS := Lib.hid (Part.start hn hpab hpb hpx hpy hok)
  have HN := Lib.hid hn
  have HB1 := Lib.hid hb1
  have hpa : pa < n := by omega
  have hne : ¬ pa = pb := by omega
  have hne2 : ¬ pb = pa := by omega
  have hbo := World.block_lt_of_cell? W _ hpc0
  clear hx hf hok hmem hp hpc hn hpx hpy
  go_enter Tryd.func15, Tryd.ntmps15
  go_wp2_with fail
  rw [← hw1]
  clear hw1
  go_fit HR.out
  clear HR
  rintro e w2 ⟨rfl, ho2, hb2⟩
  have hb2' := HB1.out.trans (hb2.mono HB1.out.size)
  have HB2 := Lib.hid hb2'
  have hq0 := (hb2'.cell (p := ⟨bo, off, none⟩) hbo).trans hpc0
  have hq1 := (hb2'.cell (p := ⟨bo, off + 1, none⟩) hbo).trans hpc1
  have hq2 := (hb2'.cell (p := ⟨bo, off + 2, none⟩) hbo).trans hpc2
  have hq3 := (hb2'.cell (p := ⟨bo, off + 3, none⟩) hbo).trans hpc3
  have hgl := (ho2.lt _ rfl).2
  have HO2 := Lib.hid ho2
  obtain ⟨g, hg⟩ : ∃ g, g = w1.heap.size := ⟨_, rfl⟩
  rw [← hg] at HO2 hgl ⊢
  have hgW : W.heap.size ≤ g := by omega
  clear hb2 hb2' hpc0 hpc1 hpc2 hpc3 ho2 hg
  go_wp2_with fail
  obtain ⟨w3, hw3⟩ : ∃ w3, w3 = w2.alloc (.cells #[.int .i64 (pa : Int), .int .i64 (px : Int), .int .i64 (pb : Int), .int .i64 (py : Int)] 40) := ⟨_, rfl⟩
  have hnb : w3.heap[w2.heap.size]? = some (.cells #[.int .i64 (pa : Int), .int .i64 (px : Int), .int .i64 (pb : Int), .int .i64 (py : Int)] 40 (0, 0)) := by rw [hw3]; exact heap_alloc_new _ _
  have hr0 : w3.cell? ⟨w2.heap.size, 0, none⟩ = some (.int .i64 (pa : Int)) := by rw [cell_of_row _ _ 0 _ _ _ hnb]; rfl
  have hr1 : w3.cell? ⟨w2.heap.size, 1, none⟩ = some (.int .i64 (px : Int)) := by rw [cell_of_row _ _ 1 _ _ _ hnb]; rfl
  have hr2 : w3.cell? ⟨w2.heap.size, 2, none⟩ = some (.int .i64 (pb : Int)) := by rw [cell_of_row _ _ 2 _ _ _ hnb]; rfl
  have hr3 : w3.cell? ⟨w2.heap.size, 3, none⟩ = some (.int .i64 (py : Int)) := by rw [cell_of_row _ _ 3 _ _ _ hnb]; rfl
  have ho3 : w3.ownsRow W.heap.size 3 1 (.slice (some ⟨g, 0, none⟩) n n) n ((List.replicate n (-1 : Int)).map (Value.int .i64)) := by rw [hw3]; exact (owns_mono HO2.out hgW).alloc _
  have hrow : ∀ j, j < n → w3.cell? ⟨g, j, none⟩ = some (.int .i64 (-1)) := fun j hj => by
    rw [ho3.cellAt j (by omega)]; simp [hj]
  have hra := hrow pa hpa
  have hrb := hrow pb hpb
  have hfa := ho3.frozenAt pa
  have hfb := ho3.frozenAt pb
  have HST := Lib.hid (show ∀ w4 w5 : World, (w4 = ((w3.setCell ⟨g, pa, none⟩ (.int .i64 px)).setCell ⟨g, pb, none⟩ (.int .i64 py)).drew) → w5 = w4 → w5.ownsRow W.heap.size 3 1 (.slice (some ⟨g, 0, none⟩) n n) n ((((List.replicate n (-1 : Int)).set pa px).set pb py).map (Value.int .i64)) ∧ Below W.heap.size W w5 from fun w4 w5 h1 h2 => by
    subst h2 h1
    have e1 := (ho3.stored pa (.int .i64 px)).1
    have e2 := (e1.stored pb (.int .i64 py)).1
    refine ⟨?_, ?_⟩
    · rw [List.map_set, List.map_set]; exact e2.drew
    · have hb3 : Below W.heap.size W w3 := by rw [hw3]; exact HB2.out.alloc HB2.out.size _
      exact ((hb3.setCell (p := ⟨g, pa, none⟩) hgW _).setCell (p := ⟨g, pb, none⟩) hgW _).drew)
  have hpa0 : (0 : Int) ≤ (pa : Int) := by omega
  have hpb0 : (0 : Int) ≤ (pb : Int) := by omega
  have hpan : (pa : Int) < (n : Int) := by omega
  have hpbn : (pb : Int) < (n : Int) := by omega
  have hgw : ¬ g = w2.heap.size := by omega
  rw [← hw3]
  clear hnb ho3 hrow hw3 hq0 hq1 hq2 hq3
  go_region
  obtain ⟨w5, hw5⟩ : ∃ w5, w5 = ((w3.setCell ⟨g, pa, none⟩ (.int .i64 px)).setCell ⟨g, pb, none⟩ (.int .i64 py)).drew := ⟨_, rfl⟩
  obtain ⟨ho5, hb5⟩ := HST.out _ _ hw5 rfl
  have HO5 := Lib.hid ho5
  have HB5 := Lib.hid hb5
  rw [← hw5]
  clear ho5 hb5 hw5 HST hr0 hr1 hr2 hr3 hra hrb hfa hfb HO2 HB2
  go_wp2_with fail
  go_loopw [35] (fun av wr => ∃ (a : Nat) (row : List Int), av = .int .i64 a ∧ a ≤ n ∧ RowKit.Hid (Part L (four pa px pb py) row a) ∧ RowKit.Hid (wr.ownsRow W.heap.size 3 1 (.slice (some ⟨g, 0, none⟩) n n) n (row.map (Value.int .i64))) ∧ RowKit.Hid (Below W.heap.size W wr)) (fun av _ => n - (intOf av).toNat)
  case atStart => exact ⟨0, _, rfl, by omega, HPS, HO5, HB5⟩
  clear HPS HO5 HB5
  case round =>
    obtain ⟨a, row, rfl, ha, hpt, ho, hb⟩ := hrel
    have HPT := Lib.hid hpt.out
    have HO := Lib.hid ho.out
    have HB := Lib.hid hb.out
    by_cases han : a < n
    · have hrl : row.length = n := by rw [hpt.out.len, HN.out]
      have hrc : wr.cell? ⟨g, a, none⟩ = some (.int .i64 (row.getD a 0)) := by
        rw [ho.out.cellAt a (by omega)]; simp [hrl, han]
      have HRL := Lib.hid hrl
      obtain ⟨z, hz⟩ : ∃ z, z = row.getD a 0 := ⟨_, rfl⟩
      rw [← hz] at hrc
      have HZ := Lib.hid hz
      have hfz := ho.out.frozenAt a
      have han0 : (0 : Int) ≤ (a : Int) := by omega
      have han1 : (a : Int) < (n : Int) := by omega
      clear hz hrl hpt ho
      by_cases hz0 : 0 ≤ z
      · have hd : decide (0 ≤ z) = true := decide_eq_true hz0
        have HSK := Lib.hid (HPT.out.skip (by rw [← HZ.out]; exact hz0))
        clear hz0 hb
        go_wp2_with fail
        go_roundw
        case rel => exact ⟨a + 1, row, by go_num, by omega, HSK, HO, HB⟩
        case measure => simp [intOf]; omega
      · have hd : decide (0 ≤ z) = false := decide_eq_false hz0
        have haL : a < L.length := by rw [HN.out]; exact han
        obtain ⟨b1, o1, rfl, hcl⟩ := HX.out wr hb.out a haL
        obtain ⟨hla, hla1, hla5⟩ := HOK.out.lv haL
        have HPUT := Lib.hid (fun (y : Int) (h0 : 0 ≤ y) (h1 : y < L.getD a 0) => HPT.out.put haL (by rw [← HZ.out]; omega) h0 h1)
        obtain ⟨la, hlae⟩ : ∃ la, la = lv L a := ⟨_, rfl⟩
        rw [hla, ← hlae] at hcl HPUT
        rw [← hlae] at hla1 hla5
        clear hla hlae haL hz0 hb
        obtain ⟨w6, hw6⟩ : ∃ w6, w6 = wr := ⟨_, rfl⟩
        subst hw6
        go_wp2_with fail
        go_loopw [8, 9, 47] (fun bv mv xv wr => ∃ (x b : Nat) (m : Int) (cur : List Int), xv = .int .i64 x ∧ x ≤ la ∧ bv = .int .i64 b ∧ b < la ∧ mv = .int .i64 m ∧ RowKit.Hid (cur.length = n ∧ ∀ u, cur.set a u = row.set a u) ∧ RowKit.Hid (wr.ownsRow W.heap.size 3 1 (.slice (some ⟨g, 0, none⟩) n n) n (cur.map (Value.int .i64))) ∧ RowKit.Hid (Below W.heap.size W wr)) (fun _ _ xv _ => la - (intOf xv).toNat)
        case atStart => exact ⟨0, 0, -1, row, rfl, by omega, rfl, by omega, rfl, Lib.hid ⟨HRL.out, fun _ => rfl⟩, HO, HB⟩
        clear HO HB hfz hrc hcl
        case round =>
          obtain ⟨x, b, m, cur, rfl, hxl, rfl, hbl, rfl, hcu, ho, hb⟩ := hrel
          have HO := Lib.hid ho.out
          have HB := Lib.hid hb.out
          have hcl := hcu.out.1
          have hrc : wr.cell? ⟨g, a, none⟩ = some (.int .i64 (cur.getD a 0)) := by
            rw [ho.out.cellAt a (by omega)]; simp [hcl, han]
          obtain ⟨z9, hz9⟩ : ∃ z9, z9 = cur.getD a 0 := ⟨_, rfl⟩
          rw [← hz9] at hrc
          have hfz := ho.out.frozenAt a
          have HST := Lib.hid (fun v : Int => (ho.out.stored a (.int .i64 v)).1)
          have HBS := Lib.hid (fun v : Value => hb.out.setCell (p := ⟨g, a, none⟩) hgW v)
          have HCU := Lib.hid hcu.out
          clear hz9 ho hb hcu hcl
          by_cases hxla : x < la
          · have HO7 := Lib.hid (show ((wr.setCell ⟨g, a, none⟩ (.int .i64 (x : Int))).ownsRow W.heap.size 3 1 (.slice (some ⟨g, 0, none⟩) n n) n ((cur.set a (x : Int)).map (Value.int .i64))) by rw [List.map_set]; exact HST.out x)
            have HB7 := Lib.hid (HBS.out (.int .i64 (x : Int)))
            have HC7 := Lib.hid (show (cur.set a (x : Int)).length = n ∧ ∀ u, (cur.set a (x : Int)).set a u = row.set a u from ⟨by rw [List.length_set]; exact HCU.out.1, fun u => by rw [List.set_set]; exact HCU.out.2 u⟩)
            clear HST HBS
            go_wp2_with fail
            generalize hw7 : wr.setCell ⟨g, a, none⟩ (.int .i64 (x : Int)) = w7 at HO7 HB7 ⊢
            clear hw7 HO HB hrc hfz
            go_loopw [11, 56] (fun nv iv wr => ∃ c i : Nat, nv = .int .i64 c ∧ iv = .int .i64 i ∧ c ≤ i ∧ i ≤ op.length ∧ RowKit.Hid (Below w7.heap.size w7 wr)) (fun _ iv _ => op.length - (intOf iv).toNat)
            case atStart => exact ⟨0, 0, rfl, rfl, by omega, by omega, Lib.hid (Below.refl _ _)⟩
            case round =>
              obtain ⟨c, i, rfl, rfl, hci, hi, hb⟩ := hrel
              have HBi := Lib.hid hb.out
              have hbW := HB7.out.trans (hb.out.mono HB7.out.size)
              by_cases hil : i < op.length
              · obtain ⟨qa, qx, qb, qy, hq, hqab, hqb, _, _⟩ := mem_all.1 (HM.out (op.getD i []) (by simp [hil]))
                obtain ⟨_, _, he, hqc⟩ := HF.out wr hbW i hil
                cases he
                rw [hq] at hqc
                have hq0 := hqc 0 (by omega)
                have hq1 := hqc 1 (by omega)
                have hq2 := hqc 2 (by omega)
                have hq3 := hqc 3 (by omega)
                simp only [four, List.getD_cons_zero, List.getD_cons_succ, Nat.add_zero] at hq0 hq1 hq2 hq3
                obtain ⟨w8, hw8⟩ : ∃ w8, w8 = wr.alloc (.cells #[.int .i64 (qa : Int), .int .i64 (qx : Int), .int .i64 (qb : Int), .int .i64 (qy : Int)] 40) := ⟨_, rfl⟩
                have hb8 : Below w7.heap.size w7 w8 := by rw [hw8]; exact hb.out.alloc hb.out.size _
                have hnb : w8.heap[wr.heap.size]? = some (.cells #[.int .i64 (qa : Int), .int .i64 (qx : Int), .int .i64 (qb : Int), .int .i64 (qy : Int)] 40 (0, 0)) := by rw [hw8]; exact heap_alloc_new _ _
                have hr0 : w8.cell? ⟨wr.heap.size, 0, none⟩ = some (.int .i64 (qa : Int)) := by rw [cell_of_row _ _ 0 _ _ _ hnb]; rfl
                have hr1 : w8.cell? ⟨wr.heap.size, 1, none⟩ = some (.int .i64 (qx : Int)) := by rw [cell_of_row _ _ 1 _ _ _ hnb]; rfl
                have hr2 : w8.cell? ⟨wr.heap.size, 2, none⟩ = some (.int .i64 (qb : Int)) := by rw [cell_of_row _ _ 2 _ _ _ hnb]; rfl
                have hr3 : w8.cell? ⟨wr.heap.size, 3, none⟩ = some (.int .i64 (qy : Int)) := by rw [cell_of_row _ _ 3 _ _ _ hnb]; rfl
                have hcl7 := HC7.out.1
                have HHAS := Lib.hid (has_any (cur.set a (x : Int)) (some ⟨g, 0, none⟩) n w8 ((IntsAt.of_owns HO7.out).below (Nat.le_refl _) hb8) (by rw [hcl7]; unfold maxLen; omega) qa qx qb qy (by rw [hcl7, ← HN.out]; omega) (by rw [hcl7, ← HN.out]; exact hqb))
                simp only [fourV, four, List.getD_cons_zero, List.getD_cons_succ] at HHAS
                rw [hcl7] at HHAS
                obtain ⟨hv, hhv⟩ : ∃ hv, hv = hasP (cur.set a (x : Int)) [(qa : Int), (qx : Int), (qb : Int), (qy : Int)] := ⟨_, rfl⟩
                rw [← hhv] at HHAS
                have HB8 := Lib.hid hb8
                have hcx : c ≤ 3600 := by omega
                clear hhv hcl7 hnb hqc hq hb hbW hb8
                subst hw8
                by_cases h1 : qa = a
                · subst h1
                  have hd1 : ((qa : Int) == (qa : Int)) = true := by simp
                  go_wp2_with fail
                  go_fit HHAS.out
                  clear HHAS
                  rintro e w9 ⟨rfl, hb9⟩
                  have HB9 := Lib.hid (HB8.out.trans (hb9.mono HB8.out.size))
                  clear hb9
                  cases hv
                  · go_wp2_with fail
                    go_roundw
                    case rel => exact ⟨c, i + 1, rfl, by go_num, by omega, by omega, HB9⟩
                    case measure => simp [intOf]; omega
                  · go_wp2_with fail
                    go_roundw
                    case rel => exact ⟨c + 1, i + 1, by go_num, by go_num, by omega, by omega, HB9⟩
                    case measure => simp [intOf]; omega
                have hd1 : ((qa : Int) == (a : Int)) = false := beq_eq_false_iff_ne.2 (by omega)
                by_cases h2 : qb = a
                · subst h2
                  have hd2 : ((qb : Int) == (qb : Int)) = true := by simp
                  go_wp2_with fail
                  go_fit HHAS.out
                  clear HHAS
                  rintro e w9 ⟨rfl, hb9⟩
                  have HB9 := Lib.hid (HB8.out.trans (hb9.mono HB8.out.size))
                  clear hb9
                  cases hv
                  · go_wp2_with fail
                    go_roundw
                    case rel => exact ⟨c, i + 1, rfl, by go_num, by omega, by omega, HB9⟩
                    case measure => simp [intOf]; omega
                  · go_wp2_with fail
                    go_roundw
                    case rel => exact ⟨c + 1, i + 1, by go_num, by go_num, by omega, by omega, HB9⟩
                    case measure => simp [intOf]; omega
                have hd2 : ((qb : Int) == (a : Int)) = false := beq_eq_false_iff_ne.2 (by omega)
                clear HHAS
                go_wp2_with fail
                go_roundw
                case rel => exact ⟨c, i + 1, rfl, by go_num, by omega, by omega, HB8⟩
                case measure => simp [intOf]; omega
              · have HO9 := Lib.hid (owns_below HO7.out hb.out)
                have HB9 := Lib.hid hbW
                clear hb hbW
                by_cases hcm : m < (c : Int)
                · have hd : decide (m < (c : Int)) = true := decide_eq_true hcm
                  clear hcm
                  go_wp2_with fail
                  go_roundw
                  case rel => exact ⟨x + 1, x, c, _, by go_num, by omega, rfl, by omega, rfl, HC7, HO9, HB9⟩
                  case measure => simp [intOf]; omega
                · have hd : decide (m < (c : Int)) = false := decide_eq_false hcm
                  clear hcm
                  go_wp2_with fail
                  go_roundw
                  case rel => exact ⟨x + 1, b, m, _, by go_num, by omega, rfl, by omega, rfl, HC7, HO9, HB9⟩
                  case measure => simp [intOf]; omega
          · have HO7 := Lib.hid (show ((wr.setCell ⟨g, a, none⟩ (.int .i64 (b : Int))).ownsRow W.heap.size 3 1 (.slice (some ⟨g, 0, none⟩) n n) n ((row.set a (b : Int)).map (Value.int .i64))) by rw [← HCU.out.2, List.map_set]; exact HST.out b)
            have HB7 := Lib.hid (HBS.out (.int .i64 (b : Int)))
            have HP7 := Lib.hid (HPUT.out b (by omega) (by omega))
            clear HST HBS HPUT
            go_wp2_with fail
            go_roundw
            case rel => exact ⟨a + 1, _, by go_num, by omega, HP7, HO7, HB7⟩
            case measure => simp [intOf]; omega
    · obtain rfl : a = n := by omega
      have HOKR := Lib.hid (show okRow L row from Part.ok (p := four pa px pb py) (by rw [HN.out]; exact HPT.out))
      clear hpt ho hb
      go_wp2_with fail
      go_ret
      exact ⟨g, row, rfl, HO.out, HOKR.out, HPT.out.has, HB.out⟩
end Go.Proofs.YtebkgkcfcenkgaaDoor
