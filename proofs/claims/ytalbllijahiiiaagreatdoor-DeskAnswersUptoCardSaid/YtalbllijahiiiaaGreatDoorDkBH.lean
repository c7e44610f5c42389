/- assayerref1.LessTapes is less. -/
import Derived.Test.YtalbllijahiiiaaGreatDoorDkBG
namespace Go.Proofs.YtalbllijahiiiaaGreatDoor
open Go.RowKit Go.Mine Go.Mine.Desk

set_option maxRecDepth 100000 in
set_option maxHeartbeats 8000000 in
theorem LessTapes_any (g : G) (v : Value) (hr : g.right) (l : List Int) (lo : Option Addr) (lc : Nat) (hl6 : l.length ≤ 6) (hlb : ∀ x ∈ l, 0 ≤ x ∧ x ≤ 1000) (hcap : l.length ≤ lc) (w : World) (hat : IntsAt .i64 w lo l) (hv : GenAt w v g) :
    Calls Tryz.prog 19 #[v, .slice lo l.length lc] w fun e w' => (∃ ao c, e = .returned (.slice ao (less g l).length c) ∧ RowsR w' ao (less g l)) ∧ Below w.heap.size w w' := by
  obtain ⟨i1, hj1, hy0, hy1, hy2⟩ := info_parts infoI3d
  obtain ⟨i0, hi0, hz0, hz1, hz2⟩ := info_parts infoInts
  obtain ⟨gK, xa, gb, gao, gn, gc, hsh⟩ := hv.shape
  obtain ⟨w0, hw0⟩ : ∃ w0, w0 = w.alloc (.cells #[.int .i64 gK, .int .i64 xa, .int .i64 gb, .slice gao gn gc] 28) := ⟨_, rfl⟩
  have hb0 : Below w.heap.size w w0 := by rw [hw0]; exact (Below.refl _ _).alloc (Nat.le_refl _) _
  obtain ⟨B, hB⟩ : ∃ B, w.heap.size = B := ⟨_, rfl⟩
  have kg : Blk w0 B 28 #[.int .i64 gK, .int .i64 xa, .int .i64 gb, .slice gao gn gc] := by rw [hw0, ← hB]; exact Blk.new _ _ _
  have HI0 := Lib.hid (show KI w B gK xa gb gao gn gc (.slice none 0 0) [] w0 from ⟨hb0, kg, GridOwn.nil _ _⟩)
  have HW := Lib.hid hw0
  have HV := Lib.hid (And.intro hv (And.intro hat hlb))
  have HSH := Lib.hid hsh
  have HMD := Lib.hid (fun (ts : List Int) (lo' : Option Addr) (lc' : Nat) (hts : ts.length ≤ 1200000) (W : World) h1 h2 => MendOf_any g v hr ts lo' lc' hts W h1 h2)
  have HRR := Lib.hid hr
  rw [hsh] at HMD ⊢
  obtain ⟨n, hn⟩ : ∃ n, l.length = n := ⟨_, rfl⟩
  have HN := Lib.hid hn
  rw [hn] at hl6 hcap ⊢
  clear hw0 hb0 kg hv hsh hat hlb hn hr
  go_enter Tryz.func19, Tryz.ntmps19
  go_upto_region 1 with fail
  rw [← HW.out]
  go_wp2_with fail
  go_loopw [5, 6, 7, 8, 9] (fun ov iv _ _ _ wr => ∃ i : Nat, iv = .int .i64 (i : Int) ∧ i ≤ n ∧ RowKit.Hid (KI w B gK xa gb gao gn gc ov ((List.range i).flatMap (lessAt g l)) wr)) (fun _ iv _ _ _ _ => n - (intOf iv).toNat)
  case atStart => exact ⟨0, rfl, by omega, HI0⟩
  case round =>
    obtain ⟨i, rfl, hi, HI⟩ := hrel
    rcases Nat.lt_or_ge i n with hin | hin
    · obtain ⟨b, o, rfl, hc0⟩ := HV.out.2.1 i (by rw [HN.out]; exact hin)
      have hcx := (HI.out.below.cell (World.block_lt_of_cell? w _ hc0)).trans hc0
      have hmem : l[i]? = some (l.getD i 0) := by simp [show i < l.length by rw [HN.out]; exact hin]
      have hxb := HV.out.2.2 _ (List.mem_of_getElem? hmem)
      obtain ⟨x, hx⟩ : ∃ x, l.getD i 0 = x := ⟨_, rfl⟩
      rw [hx] at hcx hxb
      have HX := Lib.hid hx
      have HATW := Lib.hid (HV.out.2.1.below (Nat.le_refl _) HI.out.below)
      have hi0' : (0 : Int) ≤ (i : Int) := by omega
      have hi1 : (i : Int) < (n : Int) := by omega
      obtain ⟨hh, hhe⟩ : ∃ hh, hh = i + 1 := ⟨_, rfl⟩
      have hji : (i : Int) + 1 = (hh : Int) := by omega
      have hwr : IntKind.i64.wrap (hh : Int) = hh := by rw [IntKind.wrap_i64]; omega
      have hwr2 : IntKind.i64.wrap ((i : Int) + 1) = ((i + 1 : Nat) : Int) := by rw [IntWalk.i64_in _ (by omega)]; omega
      have hhn : hh ≤ n := by omega
      have hhc : hh ≤ lc := by omega
      have hic : i ≤ lc := by omega
      have HHH := Lib.hid hhe
      obtain ⟨Z, hZ⟩ : ∃ Z, wr.heap.size = Z := ⟨_, rfl⟩
      have HZ := Lib.hid hZ
      clear hc0 hmem hx hhe
      go_upto_region 5 with fail
      go_cut [7] from 16 to 27 (fun tv wx => ∃ tb, tv = .slice (some ⟨tb, 0, none⟩) 1 1 ∧ RowKit.Hid (GridOwn wx wr.heap.size (.slice (some ⟨tb, 0, none⟩) 1 1) [l.eraseIdx i] ∧ Below wr.heap.size wr wx))
      case first =>
        have htake := IntsAt.take HATW.out i
        have her : l.take i ++ l.drop hh = l.eraseIdx i := by rw [List.eraseIdx_eq_take_drop_succ, HHH.out]
        have hel : (l.eraseIdx i).length = i + (n - hh) := by rw [← her, List.length_append, List.length_take, List.length_drop, HN.out]; omega
        have HER := Lib.hid her
        have HEL := Lib.hid hel
        have HT := Lib.hid htake
        have hd12 : n - hh ≤ 12 := by omega
        clear her hel htake
        rcases (Classical.em (lc = hh)) with hcq | hcq
        · have HR := Lib.hid (show IntsAt .i64 wr (some ⟨b, o, none⟩) (l.drop hh) from IntsAt.short (by rw [List.length_drop, HN.out]; omega))
          subst hcq
          go_wp2_with fail
          go_region_law (first
            | ((refine step_append_any _ rfl (.tmp 16) (.tmp 19) 48 rfl wr.heap.size 3 i1 (.int .i64 0) 1 8 Tryz.underlying48 hj1 hy0 hy1 hy2 rfl (by decide) _ 0 _ [] rfl ?_ (some ⟨b, o, none⟩) i _ ((l.take i).map (Value.int .i64)) rfl (by rw [List.length_map, List.length_take, HN.out]; omega) (fun h => by cases h) ?_ (ints1 _ _) ?_ ?_ ?_ _ rfl ?_)
               · exact owns_empty (by first | exact Nat.le_refl _ | (rw [hZ]; exact Nat.le_refl _)) (heap_drew_at (heap_alloc_at _ _ (by first | rfl | exact hZ.symm)))
               · exact (HT.out.below (Nat.le_refl _) ((Below.refl _ _).alloc (Nat.le_refl _) _).drew).news
               · unfold maxLen; omega
               · omega
               · simp
               intro g1 cap1 w7 hown7 hgrow7 hat7 hlt7
               simp only [Nat.zero_add, List.nil_append] at hown7 ⊢
               have hb7 : Below wr.heap.size wr w7 := Below.grown ((Below.refl _ _).alloc (Nat.le_refl _) _).drew hgrow7 (by simp) (by simp [hZ]))
            | ((refine step_append_any _ rfl (.tmp 20) (.tmp 24) 48 rfl wr.heap.size 3 i1 (.int .i64 0) 1 8 Tryz.underlying48 hj1 hy0 hy1 hy2 rfl (by decide) _ i _ ((l.take i).map (Value.int .i64)) rfl hown7 (some ⟨b, o, none⟩) _ _ ((l.drop lc).map (Value.int .i64)) rfl (by rw [List.length_map, List.length_drop, HN.out]; omega) (fun h => by cases h) ?_ (ints1 _ _) ?_ ?_ ?_ _ rfl ?_)
               · exact (HR.out.below (Nat.le_refl _) hb7).news
               · unfold maxLen; omega
               · omega
               · exact hb7.size
               intro g2 cap2 w8 hown8 hgrow8 hat8 hlt8
               have hb8 : Below wr.heap.size wr w8 := Below.grown hb7 hgrow8 hb7.size (by have := (hown7.lt g1 rfl).1; simp; omega)))
          all_goals
            go_wp2_with fail
            go_meet
            case rel => exact ⟨_, rfl, Lib.hid ⟨GridOwn.laid1 hb8.size (by rw [HEL.out, ← HER.out, List.map_append]; first | exact hown8 | (rw [show n - lc = 0 by omega]; exact hown8)), hb8.alloc hb8.size _⟩⟩
        · have HR := Lib.hid (show IntsAt .i64 wr (some ⟨b, o + hh, none⟩) (l.drop hh) from IntsAt.drop HATW.out hh)
          go_wp2_with fail
          go_region_law (first
            | ((refine step_append_any _ rfl (.tmp 16) (.tmp 19) 48 rfl wr.heap.size 3 i1 (.int .i64 0) 1 8 Tryz.underlying48 hj1 hy0 hy1 hy2 rfl (by decide) _ 0 _ [] rfl ?_ (some ⟨b, o, none⟩) i _ ((l.take i).map (Value.int .i64)) rfl (by rw [List.length_map, List.length_take, HN.out]; omega) (fun h => by cases h) ?_ (ints1 _ _) ?_ ?_ ?_ _ rfl ?_)
               · exact owns_empty (by first | exact Nat.le_refl _ | (rw [hZ]; exact Nat.le_refl _)) (heap_drew_at (heap_alloc_at _ _ (by first | rfl | exact hZ.symm)))
               · exact (HT.out.below (Nat.le_refl _) ((Below.refl _ _).alloc (Nat.le_refl _) _).drew).news
               · unfold maxLen; omega
               · omega
               · simp
               intro g1 cap1 w7 hown7 hgrow7 hat7 hlt7
               simp only [Nat.zero_add, List.nil_append] at hown7 ⊢
               have hb7 : Below wr.heap.size wr w7 := Below.grown ((Below.refl _ _).alloc (Nat.le_refl _) _).drew hgrow7 (by simp) (by simp [hZ]))
            | ((refine step_append_any _ rfl (.tmp 20) (.tmp 24) 48 rfl wr.heap.size 3 i1 (.int .i64 0) 1 8 Tryz.underlying48 hj1 hy0 hy1 hy2 rfl (by decide) _ i _ ((l.take i).map (Value.int .i64)) rfl hown7 (some ⟨b, o + hh, none⟩) (n - hh) (lc - hh) ((l.drop hh).map (Value.int .i64)) rfl (by rw [List.length_map, List.length_drop, HN.out]; omega) (fun h => by cases h) ?_ (ints1 _ _) ?_ ?_ ?_ _ rfl ?_)
               · exact (HR.out.below (Nat.le_refl _) hb7).news
               · unfold maxLen; omega
               · omega
               · exact hb7.size
               intro g2 cap2 w8 hown8 hgrow8 hat8 hlt8
               have hb8 : Below wr.heap.size wr w8 := Below.grown hb7 hgrow8 hb7.size (by have := (hown7.lt g1 rfl).1; simp; omega)))
          all_goals
            go_wp2_with fail
            go_meet
            case rel => exact ⟨_, rfl, Lib.hid ⟨GridOwn.laid1 hb8.size (by rw [HEL.out, ← HER.out, List.map_append]; first | exact hown8 | (rw [show n - lc = 0 by omega]; exact hown8)), hb8.alloc hb8.size _⟩⟩
      case rest =>
        obtain ⟨tb, rfl, HC⟩ := hcut
        have HAC := Lib.hid (HATW.out.below (Nat.le_refl _) HC.out.2)
        have hcx7 := (HC.out.2.cell (World.block_lt_of_cell? wr _ hcx)).trans hcx
        obtain ⟨vs7, hv7, hr7⟩ := HC.out.1
        obtain ⟨ev, hev, her⟩ := hr7 0 (by simp)
        obtain ⟨eo, ec, rfl⟩ := owns_shape her
        obtain ⟨en, hen⟩ : ∃ en, ([l.eraseIdx i].getD 0 []).length = en := ⟨_, rfl⟩
        have hct : wc.cell? ⟨tb, 0, none⟩ = some (.slice eo en ec) := by
          have h := hv7.cellAt 0 (by simp)
          rw [hev, hen] at h
          exact h
        have HER7 := Lib.hid her
        rw [hen] at HER7
        have HEN := Lib.hid (show (l.eraseIdx i).length = en from hen)
        have htl : tb < wc.heap.size := (hv7.lt tb rfl).2
        have htz : Z ≤ tb := by rw [← hZ]; exact (hv7.lt tb rfl).1
        clear hv7 hr7 hev her hen
        obtain ⟨bx, hbx⟩ : ∃ bx, decide (0 < x) = bx := ⟨_, rfl⟩
        go_upto_if 31 with fail
        have HBX := Lib.hid hbx
        clear hbx hcx
        go_cut [7] from 32 to 55 (fun tv wx => ∃ tb tn, tv = .slice (some ⟨tb, 0, none⟩) tn tn ∧ RowKit.Hid (tn = (tries l i).length ∧ GridOwn wx wr.heap.size (.slice (some ⟨tb, 0, none⟩) tn tn) (tries l i) ∧ Below wr.heap.size wr wx))
        case first =>
          cases bx with
          | true =>
            have hpos : 0 < x := of_decide_eq_true HBX.out
            obtain ⟨y, hy⟩ : ∃ y, x / 2 = y := ⟨_, rfl⟩
            have hq : x.tdiv 2 = y := by rw [Int.tdiv_eq_ediv_of_nonneg (by omega)]; exact hy
            have hq2 : IntKind.i64.wrap y = y := IntWalk.i64_in _ (by omega)
            have hq3 : wrap64 y = y := by unfold wrap64; omega
            have hq4 : IntKind.i64.wrap (x - 1) = x - 1 := IntWalk.i64_in _ (by omega)
            have hq5 : wrap64 (x - 1) = x - 1 := by unfold wrap64; omega
            have HTR := Lib.hid (show tries l i = [l.set i 0, l.set i y, l.set i (x - 1), l.eraseIdx i] by unfold tries; rw [HX.out, if_pos hpos, hy]; rfl)
            have HSET := Lib.hid (fun (u : Int) (W : World) (hb : Below wc.heap.size wc W) => show Calls Tryz.prog 31 #[.slice (some ⟨b, o, none⟩) n lc, .int .i64 (i : Int), .int .i64 u] W _ from by
              have h := With_any (some ⟨b, o, none⟩) lc i u l (by rw [HN.out]; omega) (by rw [HN.out]; exact hin) W (HAC.out.below (Nat.le_refl _) hb)
              rw [HN.out] at h
              exact h)
            have HSK := Lib.hid (fun (W : World) (hb : Below wc.heap.size wc W) => And.intro (Lib.hid hb) (And.intro ((hb.cell (World.block_lt_of_cell? wc _ hcx7)).trans hcx7) ((hb.cell (p := ⟨tb, 0, none⟩) htl).trans hct)))
            clear hy hpos
            go_wp2_with fail
            refine wp_region_held_drew (S := fun w' => RowKit.Hid (Below wc.heap.size wc w') ∧ w'.cell? ⟨b, o + i, none⟩ = some (.int .i64 x) ∧ w'.cell? ⟨tb, 0, none⟩ = some (.slice eo en ec)) (by kernel_rfl) ?hS0 (fun hHeld => ?_)
            case hS0 =>
              exact HSK.out _ ((Below.refl _ wc).drew)
            refine wpAnyH_take (i := 0) (v := ?vv0) rfl (by kernel_rfl) (by kernel_rfl) (by kernel_rfl) (fun _ _ _ h => h) (Or.inl ⟨by rfl, ?hy0⟩) (by assumption) ?rest0
            case hy0 => ((intro w hSw; (try dsimp only at hSw); go_simp) <;> with_reducible rfl)
            try simp only [sA, sC, Act.put, sD, sE, sF]
            refine wpAnyH_take (i := 1) (v := ?vv1) rfl (by kernel_rfl) (by kernel_rfl) (by kernel_rfl) (fun _ _ _ h => h) (Or.inl ⟨by rfl, ?hy1⟩) (by assumption) ?rest1
            case hy1 => ((intro w hSw; (try dsimp only at hSw); go_simp) <;> with_reducible rfl)
            try simp only [sA, sB, sC, Act.put, sD, sE, sF]
            refine wpAnyH_take (i := 3) (v := ?vv3) rfl (by kernel_rfl) (by kernel_rfl) (by kernel_rfl) (fun _ _ _ h => h) (Or.inl ⟨by rfl, ?hy3⟩) (by assumption) ?rest3
            case hy3 => ((intro w hSw; (try dsimp only at hSw); go_simp) <;> with_reducible rfl)
            try simp only [sA, sB, sC, Act.put, sD, sE, sF]
            refine wpAnyH_take (i := 4) (v := ?vv4) rfl (by kernel_rfl) (by kernel_rfl) (by kernel_rfl) (fun _ _ _ h => h) (Or.inl ⟨by rfl, ?hy4⟩) (by assumption) ?rest4
            case hy4 => ((intro w hSw; (try dsimp only at hSw); go_simp) <;> with_reducible rfl)
            try simp only [sA, sB, sC, Act.put, sD, sE, sF]
            refine wpAnyH_take (i := 5) (v := ?vv5) rfl (by kernel_rfl) (by kernel_rfl) (by kernel_rfl) (fun _ _ _ h => h) (Or.inl ⟨by rfl, ?hy5⟩) (by assumption) ?rest5
            case hy5 => ((intro w hSw; (try dsimp only at hSw); go_simp) <;> with_reducible rfl)
            try simp only [sA, sB, sC, Act.put, sD, sE, sF]
            refine wpAnyH_take (i := 6) (v := ?vv6) rfl (by kernel_rfl) (by kernel_rfl) (by kernel_rfl) (fun _ _ _ h => h) (Or.inl ⟨by rfl, ?hy6⟩) (by assumption) ?rest6
            case hy6 => ((intro w hSw; (try dsimp only at hSw); go_simp) <;> with_reducible rfl)
            try simp only [sA, sB, sC, Act.put, sD, sE, sF]
            refine wpAnyH_take (i := 7) (v := ?vv7) rfl (by kernel_rfl) (by kernel_rfl) (by kernel_rfl) (fun _ _ _ h => h) (Or.inl ⟨by rfl, ?hy7⟩) (by assumption) ?rest7
            case hy7 => ((intro w hSw; (try dsimp only at hSw); go_simp) <;> with_reducible rfl)
            try simp only [sA, sB, sC, Act.put, sD, sE, sF]
            refine wpAnyH_take (i := 8) (v := ?vv8) rfl (by kernel_rfl) (by kernel_rfl) (by kernel_rfl) (fun _ _ _ h => h) (Or.inl ⟨by rfl, ?hy8⟩) (by assumption) ?rest8
            case hy8 => ((intro w hSw; (try dsimp only at hSw); go_simp) <;> with_reducible rfl)
            try simp only [sA, sB, sC, Act.put, sD, sE, sF]
            refine wpAnyH_take (i := 9) (v := ?vv9) rfl (by kernel_rfl) (by kernel_rfl) (by kernel_rfl) (fun _ _ _ h => h) (Or.inl ⟨by rfl, ?hy9⟩) (by assumption) ?rest9
            case hy9 => ((intro w hSw; (try dsimp only at hSw); go_simp) <;> with_reducible rfl)
            try simp only [sA, sB, sC, Act.put, sD, sE, sF]
            refine wpAnyH_take (i := 11) (v := ?vv11) rfl (by kernel_rfl) (by kernel_rfl) (by kernel_rfl) (fun _ _ _ h => h) (Or.inl ⟨by rfl, ?hy11⟩) (by assumption) ?rest11
            case hy11 => ((intro w hSw; (try dsimp only at hSw); go_simp) <;> with_reducible rfl)
            try simp only [sA, sB, sC, Act.put, sD, sE, sF]
            refine wpAnyH_take (i := 12) (v := ?vv12) rfl (by kernel_rfl) (by kernel_rfl) (by kernel_rfl) (fun _ _ _ h => h) (Or.inl ⟨by rfl, ?hy12⟩) (by assumption) ?rest12
            case hy12 => ((intro w hSw; (try dsimp only at hSw); go_simp) <;> with_reducible rfl)
            try simp only [sA, sB, sC, Act.put, sD, sE, sF]
            refine wpAnyH_take (i := 13) (v := ?vv13) rfl (by kernel_rfl) (by kernel_rfl) (by kernel_rfl) (fun _ _ _ h => h) (Or.inl ⟨by rfl, ?hy13⟩) (by assumption) ?rest13
            case hy13 => ((intro w hSw; (try dsimp only at hSw); go_simp) <;> with_reducible rfl)
            try simp only [sA, sB, sC, Act.put, sD, sE, sF]
            refine wpAnyH_take (i := 14) (v := ?vv14) rfl (by kernel_rfl) (by kernel_rfl) (by kernel_rfl) (fun _ _ _ h => h) (Or.inl ⟨by rfl, ?hy14⟩) (by assumption) ?rest14
            case hy14 => ((intro w hSw; (try dsimp only at hSw); go_simp) <;> with_reducible rfl)
            try simp only [sA, sB, sC, Act.put, sD, sE, sF]
            refine wpAnyH_take (i := 15) (v := ?vv15) rfl (by kernel_rfl) (by kernel_rfl) (by kernel_rfl) (fun _ _ _ h => h) (Or.inl ⟨by rfl, ?hy15⟩) (by assumption) ?rest15
            case hy15 => ((intro w hSw; (try dsimp only at hSw); go_simp) <;> with_reducible rfl)
            try simp only [sA, sB, sC, Act.put, sD, sE, sF]
            refine wpAnyH_take (i := 16) (v := ?vv16) rfl (by kernel_rfl) (by kernel_rfl) (by kernel_rfl) (fun _ _ _ h => h) (Or.inl ⟨by rfl, ?hy16⟩) (by assumption) ?rest16
            case hy16 => ((intro w hSw; (try dsimp only at hSw); go_simp) <;> with_reducible rfl)
            try simp only [sA, sB, sC, Act.put, sD, sE, sF]
            refine wpAnyH_take (i := 17) (v := ?vv17) rfl (by kernel_rfl) (by kernel_rfl) (by kernel_rfl) (fun _ _ _ h => h) (Or.inl ⟨by rfl, ?hy17⟩) (by assumption) ?rest17
            case hy17 => ((intro w hSw; (try dsimp only at hSw); go_simp) <;> with_reducible rfl)
            try simp only [sA, sB, sC, Act.put, sD, sE, sF]
            refine wpAnyH_take (i := 19) (v := ?vv19) rfl (by kernel_rfl) (by kernel_rfl) (by kernel_rfl) (fun _ _ _ h => h) (Or.inl ⟨by rfl, ?hy19⟩) (by assumption) ?rest19
            case hy19 => ((intro w hSw; (try dsimp only at hSw); go_simp) <;> with_reducible rfl)
            try simp only [sA, sB, sC, Act.put, sD, sE, sF]
            refine wpAnyH_take (i := 20) (v := ?vv20) rfl (by kernel_rfl) (by kernel_rfl) (by kernel_rfl) (fun _ _ _ h => h) (Or.inl ⟨by rfl, ?hy20⟩) (by assumption) ?rest20
            case hy20 => ((intro w hSw; (try dsimp only at hSw); go_simp) <;> with_reducible rfl)
            try simp only [sA, sB, sC, Act.put, sD, sE, sF]
            refine wpAnyH_take (i := 21) (v := ?vv21) rfl (by kernel_rfl) (by kernel_rfl) (by kernel_rfl) (fun _ _ _ h => h) (Or.inl ⟨by rfl, ?hy21⟩) (by assumption) ?rest21
            case hy21 => ((intro w hSw; (try dsimp only at hSw); go_simp) <;> with_reducible rfl)
            try simp only [sA, sB, sC, Act.put, sD, sE, sF]
            refine wpAnyH_ready (rs := [2]) (by kernel_rfl) (by simp) ?_
            refine AllReadyH.cons rfl (fun K hK => ?_) AllReadyH.nil
            go_simp
            go_at_call 31
            refine (HSET.out 0 wc.drew ((Below.refl _ wc).drew)).mono ?_
            rintro e w3 ⟨⟨v0, n0, rfl, hr0⟩, hb3⟩
            have hb3' : Below wc.heap.size wc w3 := ((Below.refl _ wc).drew).trans hb3
            have HR0 := Lib.hid (And.intro hr0 hb3')
            clear hr0 hb3 hb3'
            refine hK.out _ _ ?hS2 (fun hHeld => ?_)
            case hS2 => exact HSK.out _ HR0.out.2
            clear hK K
            try simp only [sA, sB, sC, Act.put, sD, sE, sF]
            refine wpAnyH_ready (rs := [10]) (by kernel_rfl) (by simp) ?_
            refine AllReadyH.cons rfl (fun K hK => ?_) AllReadyH.nil
            go_simp
            go_at_call 31
            refine (HSET.out y w3 HR0.out.2).mono ?_
            rintro e w4 ⟨⟨v1, n1, rfl, hr1⟩, hb4⟩
            have HR1 := Lib.hid (And.intro (owns_below HR0.out.1 hb4) (And.intro (owns_mono hr1 HR0.out.2.size) (HR0.out.2.trans (hb4.mono HR0.out.2.size))))
            clear hr1 hb4
            refine hK.out _ _ ?hS10 (fun hHeld => ?_)
            case hS10 => exact HSK.out _ HR1.out.2.2
            clear hK K
            try simp only [sA, sB, sC, Act.put, sD, sE, sF]
            refine wpAnyH_ready (rs := [18]) (by kernel_rfl) (by simp) ?_
            refine AllReadyH.cons rfl (fun K hK => ?_) AllReadyH.nil
            go_simp
            go_at_call 31
            refine (HSET.out (x - 1) w4 HR1.out.2.2).mono ?_
            rintro e w5 ⟨⟨v2, n2, rfl, hr2⟩, hb5⟩
            have HR2 := Lib.hid (And.intro (owns_below HR1.out.1 hb5) (And.intro (owns_below HR1.out.2.1 hb5) (And.intro (owns_mono hr2 HR1.out.2.2.size) (HR1.out.2.2.trans (hb5.mono HR1.out.2.2.size)))))
            clear hr2 hb5
            refine hK.out _ _ ?hS18 (fun hHeld => ?_)
            case hS18 => exact HSK.out _ HR2.out.2.2.2
            clear hK K
            try simp only [sA, sB, sC, Act.put, sD, sE, sF]
            refine wpAnyH_ready (rs := [22]) (by kernel_rfl) (by simp) ?_
            refine AllReadyH.cons rfl (fun K hK => ?_) AllReadyH.nil
            go_simp
            refine hK.out _ _ ?hS22 (fun hHeld => ?_)
            case hS22 => exact HSK.out _ (HR2.out.2.2.2.alloc HR2.out.2.2.2.size _)
            clear hK K
            try simp only [sA, sB, sC, Act.put, sD, sE, sF]
            refine wpAnyH_take (i := 23) (v := ?vv23) rfl (by kernel_rfl) (by kernel_rfl) (by kernel_rfl) (fun _ _ _ h => h) (Or.inl ⟨by rfl, ?hy23⟩) (by assumption) ?rest23
            case hy23 => ((intro w hSw; (try dsimp only at hSw); go_simp) <;> with_reducible rfl)
            try simp only [sA, sB, sC, Act.put, sD, sE, sF]
            refine wpAnyH_done (by kernel_rfl) ?_ _
            go_wp2_with fail
            go_meet
            case rel =>
              have hz5 : wr.heap.size ≤ w5.heap.size := Nat.le_trans HC.out.2.size HR2.out.2.2.2.size
              have hall := HC.out.2.trans (HR2.out.2.2.2.mono HC.out.2.size)
              have he5 := owns_below HER7.out HR2.out.2.2.2
              refine ⟨w5.heap.size, 4, rfl, Lib.hid ⟨by rw [HTR.out]; rfl, ?_, hall.alloc hz5 _⟩⟩
              rw [HTR.out]
              refine GridOwn.laid4 hz5 ?_ ?_ ?_ ?_
              · have h := owns_mono HR2.out.1 HC.out.2.size
                rw [List.length_set, HN.out]
                exact h
              · have h := owns_mono HR2.out.2.1 HC.out.2.size
                rw [List.length_set, HN.out]
                exact h
              · have h := owns_mono HR2.out.2.2.1 HC.out.2.size
                rw [List.length_set, HN.out]
                exact h
              · rw [HEN.out]
                exact he5
          | false =>
            have hpos : ¬ 0 < x := of_decide_eq_false HBX.out
            have HTR := Lib.hid (show tries l i = [l.eraseIdx i] by unfold tries; rw [HX.out, if_neg hpos]; rfl)
            clear hpos
            go_wp2_with fail
            go_meet
            case rel => exact ⟨tb, 1, rfl, Lib.hid ⟨by rw [HTR.out]; rfl, by rw [HTR.out]; exact HC.out.1, HC.out.2⟩⟩
        case rest =>
          obtain ⟨tb, tn, rfl, HD⟩ := hcut
          obtain ⟨Z2, hZ2⟩ : ∃ Z2, wc.heap.size = Z2 := ⟨_, rfl⟩
          have HJ0 := Lib.hid (show KJ w B gK xa gb gao gn gc _ ((List.range i).flatMap (lessAt g l)) Z Z2 wc wc from ⟨HI.out.on HD.out.2.2, fun q hq => .inl (by rw [← HZ.out]; obtain ⟨vs, h1, _⟩ := HI.out.out; exact (h1.lt q hq).2), fun _ _ _ => rfl, by rw [hZ2]; exact Nat.le_refl _⟩)
          have HT := Lib.hid (And.intro HD.out.1 HD.out.2.1)
          rw [HZ.out] at HT
          have htn4 : tn ≤ 4 := by rw [HD.out.1]; unfold tries; split <;> simp
          have HZ2 := Lib.hid hZ2
          have HLL := Lib.hid (less_len g l i)
          have hi6 : i ≤ 6 := by omega
          clear hZ hZ2 hcx7 hct htl htz
          go_wp2_with fail
          go_loopw [5, 8, 9] (fun ov kv _ wj => ∃ j : Nat, kv = .int .i64 (j : Int) ∧ j ≤ tn ∧ RowKit.Hid ((((List.range i).flatMap (lessAt g l) ++ ((tries l i).take j).flatMap (kept g l)).length ≤ 4 * i + j) ∧ KJ w B gK xa gb gao gn gc ov ((List.range i).flatMap (lessAt g l) ++ ((tries l i).take j).flatMap (kept g l)) Z Z2 wc wj)) (fun _ kv _ _ => tn - (intOf kv).toNat)
          case atStart => exact ⟨0, rfl, by omega, Lib.hid ⟨by simpa using HLL.out, by simpa using HJ0.out⟩⟩
          case round =>
            obtain ⟨j, rfl, hj, HJ⟩ := hrel
            rcases Nat.lt_or_ge j tn with hjn | hjn
            · obtain ⟨vs, hv1, hv2⟩ := HT.out.2
              obtain ⟨vj, hvj, hoj⟩ := hv2 j (by rw [← HT.out.1]; exact hjn)
              rw [← HT.out.1] at hv1
              obtain ⟨jo, jc, rfl⟩ := owns_shape hoj
              have hmem : (tries l i)[j]? = some ((tries l i).getD j []) := by simp [show j < (tries l i).length by rw [← HT.out.1]; exact hjn]
              obtain ⟨t, ht⟩ : ∃ t, (tries l i).getD j [] = t := ⟨_, rfl⟩
              rw [ht] at hvj hoj hmem
              have hgb := hv1.lt tb rfl
              rw [HZ2.out] at hgb
              have hcell := hv1.cellAt j (by have := hv1.1; omega)
              rw [hvj] at hcell
              have hcj : wr.cell? ⟨tb, j, none⟩ = some (.slice jo t.length jc) := by
                rw [← hcell]
                exact World.cell?_of_block (HJ.out.2.same tb hgb.1 hgb.2)
              have hoj' : wr.ownsRow Z 3 1 (.slice jo t.length jc) t.length (t.map (.int .i64)) := owns_same hoj fun q hq => HJ.out.2.same q (hoj.lt q hq).1 (by have := (hoj.lt q hq).2; rw [HZ2.out] at this; exact this)
              have htl : t.length ≤ 6 := by
                have hm := List.mem_of_getElem? hmem
                unfold tries at hm
                have hn6 : l.length ≤ 6 := by rw [HN.out]; exact hl6
                rw [List.mem_append] at hm
                rcases hm with hm | hm
                · split at hm
                  · simp only [List.mem_cons, List.not_mem_nil, or_false] at hm
                    rcases hm with rfl | rfl | rfl <;> simpa using hn6
                  · simp at hm
                · simp only [List.mem_singleton] at hm
                  rw [hm, List.length_eraseIdx]
                  split <;> omega
              have HC1 := Lib.hid (HMD.out t jo jc (by omega) wr.drew (show IntsAt .i64 wr jo t from IntsAt.of_owns hoj') (show GenAt wr _ g by rw [← HSH.out]; exact HV.out.1.on HJ.out.2.ki.below))
              obtain ⟨tl, htle⟩ : ∃ tl, t.length = tl := ⟨_, rfl⟩
              have HTL := Lib.hid htle
              rw [htle] at hcj HC1 htl
              have c0 : wr.cell? ⟨B, 0, none⟩ = some (.int .i64 gK) := HJ.out.2.ki.gen.cell 0
              have c1 : wr.cell? ⟨B, 1, none⟩ = some (.int .i64 xa) := HJ.out.2.ki.gen.cell 1
              have c2 : wr.cell? ⟨B, 2, none⟩ = some (.int .i64 gb) := HJ.out.2.ki.gen.cell 2
              have c3 : wr.cell? ⟨B, 3, none⟩ = some (.slice gao gn gc) := HJ.out.2.ki.gen.cell 3
              have hj0 : (0 : Int) ≤ (j : Int) := by omega
              have hj1' : (j : Int) < (tn : Int) := by omega
              have hw2 : IntKind.i64.wrap ((j : Int) + 1) = ((j + 1 : Nat) : Int) := by rw [IntWalk.i64_in _ (by omega)]; omega
              have HTK := Lib.hid (show (tries l i).take (j + 1) = (tries l i).take j ++ [t] by rw [List.take_add_one, hmem]; rfl)
              clear hv1 hv2 hvj hoj hcell hoj' hmem ht htle hgb
              go_wp2_with fail
              go_still_tail 5, (by kernel_rfl)
              go_wp2_with fail
              refine HC1.out.mono ?_
              clear HC1
              rintro e w4 ⟨⟨mo, mc, rfl, hrm⟩, hb4⟩
              have hb4' : Below wr.heap.size wr w4 := ((Below.refl _ wr).drew).trans hb4
              have HJ4 := Lib.hid (HJ.out.2.on hb4')
              have HRM := Lib.hid (show w4.ownsRow (B + 1) 3 1 (.slice mo (mend g t).length mc) (mend g t).length ((mend g t).map (.int .i64)) from hrm.mono (by have := HJ.out.2.ki.gen.lt; show B + 1 ≤ wr.heap.size; omega))
              have HSHT := Lib.hid (shorter_any (mend g t) l mo (some ⟨b, o, none⟩) mc lc w4 (IntsAt.of_owns hrm) (HV.out.2.1.below (Nat.le_refl _) HJ4.out.ki.below) (owns_len hrm) (by rw [HN.out]; unfold maxLen; omega))
              rw [HN.out] at HSHT
              obtain ⟨m, hm⟩ : ∃ m, mend g t = m := ⟨_, rfl⟩
              rw [hm] at HRM HSHT ⊢
              have HMM := Lib.hid hm
              clear hrm hb4 hb4' c0 c1 c2 c3 hcj hm
              cases hlt : tapeLt m l with
              | true =>
                rw [hlt] at HSHT
                have HKP := Lib.hid (show kept g l t = [m] by unfold kept; rw [HMM.out, hlt]; rfl)
                clear hlt
                go_wp2_with fail
                refine HSHT.out.mono ?_
                clear HSHT
                rintro e w5 ⟨rfl, q5, rfl⟩
                have HJ5 := Lib.hid (HJ4.out.on (below_drewN (Below.refl _ _) q5))
                have HRM5 := Lib.hid (show (w4.drewN q5).ownsRow (B + 1) 3 1 (.slice mo m.length mc) m.length (m.map (.int .i64)) from HRM.out)
                obtain ⟨w6, hw6⟩ : ∃ w6, w6 = w4.drewN q5 := ⟨_, rfl⟩
                rw [← hw6] at HJ5 HRM5 ⊢
                obtain ⟨vs, hv1, hv2⟩ := HJ5.out.ki.out
                obtain ⟨oo, oc, rfl⟩ := owns_shape hv1
                have HV5 := Lib.hid (And.intro hv1 hv2)
                have hz6 : B + 1 ≤ w6.heap.size := HJ5.out.ki.gen.lt
                have hln := HJ.out.1
                obtain ⟨rows, hrows⟩ : ∃ rows, rows = (List.range i).flatMap (lessAt g l) ++ ((tries l i).take j).flatMap (kept g l) := ⟨_, rfl⟩
                rw [← hrows] at HJ5 HV5 hln ⊢
                have HROW := Lib.hid hrows
                clear hv1 hv2 hw6 hrows HJ4 HRM
                go_wp2_with (at_builtin; refine wpList_push2 _ rfl _ _ 58 rfl (B + 1) 48 i0 (.slice none 0 0) 1 24 Tryz.underlying58 hi0 hz0 hz1 hz2 rfl (by decide) _ _ _ rfl (HV5.out.1.alloc _) ⟨w6.heap.size, 0, none⟩ 1 [.slice mo m.length mc] rfl rfl (World.news_of_block (cs := #[.slice mo m.length mc]) (t := 48) (fr := (0, 0)) (heap_alloc_at _ _ rfl)) (by simp [Value.oneCell']) (by unfold maxLen; omega) (by omega) (by simp; omega) ?_)
                intro g7 cap7 w7 hown7 hgr7 hat7
                have HJ7 := Lib.hid (HJ5.out.push hB HRM5.out HV5.out.1 HV5.out.2 hown7 hgr7 (hat7.imp_right fun h => by simpa using h))
                have HNX := Lib.hid (show rows ++ [m] = (List.range i).flatMap (lessAt g l) ++ ((tries l i).take (j + 1)).flatMap (kept g l) by rw [HROW.out, HTK.out, List.flatMap_append, List.append_assoc]; congr 1; rw [List.flatMap_singleton, HKP.out])
                clear hown7 hgr7 hat7
                go_wp2_with fail
                go_roundw
                case rel => exact ⟨j + 1, by go_num, by omega, Lib.hid ⟨by rw [← HNX.out, List.length_append]; simp; omega, by rw [← HNX.out]; exact HJ7.out⟩⟩
                case measure => simp [intOf]; omega
              | false =>
                rw [hlt] at HSHT
                have HKP := Lib.hid (show kept g l t = [] by unfold kept; rw [HMM.out, hlt]; rfl)
                clear hlt
                go_wp2_with fail
                refine HSHT.out.mono ?_
                clear HSHT
                rintro e w5 ⟨rfl, q5, rfl⟩
                have HJ5 := Lib.hid (HJ4.out.on (below_drewN (Below.refl _ _) q5))
                have HNX := Lib.hid (show (List.range i).flatMap (lessAt g l) ++ ((tries l i).take j).flatMap (kept g l) = (List.range i).flatMap (lessAt g l) ++ ((tries l i).take (j + 1)).flatMap (kept g l) by rw [HTK.out, List.flatMap_append, List.flatMap_singleton, HKP.out, List.append_nil])
                go_wp2_with fail
                go_roundw
                case rel => exact ⟨j + 1, by go_num, by omega, Lib.hid ⟨by rw [← HNX.out]; have := HJ.out.1; omega, by rw [← HNX.out]; exact HJ5.out⟩⟩
                case measure => simp [intOf]; omega
            · obtain rfl : j = tn := by omega
              have HNX := Lib.hid (show (List.range i).flatMap (lessAt g l) ++ ((tries l i).take j).flatMap (kept g l) = (List.range (i + 1)).flatMap (lessAt g l) by rw [HT.out.1, List.take_of_length_le (Nat.le_refl _), less_snoc, lessAt_kept])
              have HKI := Lib.hid (show KI w B gK xa gb gao gn gc _ ((List.range (i + 1)).flatMap (lessAt g l)) _ by rw [← HNX.out]; exact HJ.out.2.ki)
              go_wp2_with fail
              go_roundw
              case rel => exact ⟨i + 1, by go_num, by omega, HKI⟩
              case measure => simp [intOf]; omega
    · obtain rfl : i = n := by omega
      obtain ⟨ao, ac, rfl⟩ := HI.out.out.shape
      have HL := Lib.hid (show (List.range i).flatMap (lessAt g l) = less g l by rw [← HN.out]; rfl)
      rw [HL.out]
      go_wp2_with fail
      go_ret
      exact ⟨⟨ao, ac, rfl, by rw [← HL.out]; exact HI.out.out.rows⟩, HI.out.below⟩
end Go.Proofs.YtalbllijahiiiaaGreatDoor
