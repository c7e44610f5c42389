/- gram.Short: the walk. No conditions. -/
import Derived.Test.YtfdjnofkoegbdaaDoorGram14
import Derived.Test.YtfdjnofkoegbdaaDoorMore
import Derived.Deep.RegionLaw
namespace Go.Proofs.YtfdjnofkoegbdaaDoor
open Go.RowKit Go.Mine Go.Mine.Gram

set_option maxHeartbeats 2000000 in
set_option maxRecDepth 100000 in
theorem short_any (g : List (List (List Int))) (i : Int) (go' : Option Addr) (gc : Nat) (W : World) (hx : GridAt W go' g) (hl : g.length ≤ maxLen) :
    Calls Tryd.prog 16 #[.slice go' g.length gc, .int .i64 i] W fun e w' => ShortPost g i e w' ∧ Below W.heap.size W w' := by
  obtain ⟨i0, hi0, hz0, hz1, hz2⟩ := info_parts infoS3
  have HC := Lib.hid (gcheck_any g go' gc W hx hl)
  have HX := Lib.hid hx
  unfold maxLen at hl
  clear hx
  go_enter Tryd.func16, Tryd.ntmps16
  go_wp2_with fail
  refine HC.out.mono ?_
  clear HC
  rintro e w1 ⟨⟨hok, rfl⟩ | ⟨hno, rfl⟩, rfl⟩
  rotate_left
  · have HNO := Lib.hid hno
    clear hno
    go_wp2_with fail
    go_ret2
    exact ⟨.inl ⟨HNO.out, rfl⟩, Below.refl _ _⟩
  have HOK := Lib.hid hok
  obtain ⟨hn1, hn5, hg⟩ := hok
  have HG := Lib.hid hg
  clear hg
  by_cases hi0' : i < 0
  · go_wp2_with fail
    go_ret2
    exact ⟨.inr (.inl ⟨HOK.out, by omega, rfl⟩), Below.refl _ _⟩
  by_cases hin : (g.length : Int) ≤ i
  · go_wp2_with fail
    go_ret2
    exact ⟨.inr (.inl ⟨HOK.out, by omega, rfl⟩), Below.refl _ _⟩
  obtain ⟨q, rfl⟩ := Int.eq_ofNat_of_zero_le (show 0 ≤ i by omega)
  obtain ⟨n, hn⟩ : ∃ n, n = g.length := ⟨_, rfl⟩
  have HN := Lib.hid hn
  rw [← hn] at hn1 hn5 hl hin ⊢
  have hqn : q < n := by omega
  have hdn : decide (n ≤ q) = false := by rw [decide_eq_false_iff_not]; omega
  have hdq : decide ((q : Int) < 0) = false := by rw [decide_eq_false_iff_not]; omega
  have hmk1 := run_make_row' (P := Tryd.prog) 36 22 (.slice none 0 0) 24 Tryd.underlying36 infoS2 rfl .i64 .i64 n (by omega) (by omega)
  have hmk2 := run_make_row' (P := Tryd.prog) 52 4 (.bool false) 1 Tryd.underlying52 infoS4 rfl .i64 .i64 n (by omega) (by omega)
  clear hn
  obtain ⟨gb, hgb⟩ : ∃ gb, gb = W.heap.size := ⟨_, rfl⟩
  have hsh0 : Sh W (((W.alloc (.cells (madeCells #[.slice none 0 0] n) 22)).alloc (.cells (madeCells #[.bool false] n) 4)).alloc (.cells #[.slice (some ⟨W.heap.size + 1, 0, none⟩) n n] 52)) W.heap.size (W.heap.size + 1) (W.heap.size + 1 + 1) n (List.replicate n false) (List.replicate n []) (List.replicate n (.slice none 0 0)) := by
    have h1 := World.ownsRow_lit (base := W.heap.size) (e := 22) (size := 1) W (madeCells #[.slice none 0 0] n) n (Nat.le_refl _) (by unfold maxLen; omega) (by simp [madeCells])
    have h2 := World.ownsRow_lit (base := W.heap.size) (e := 4) (size := 1) (W.alloc (.cells (madeCells #[.slice none 0 0] n) 22)) (madeCells #[.bool false] n) n (by simp) (by unfold maxLen; omega) (by simp [madeCells])
    have e1 : (madeCells #[Value.slice none 0 0] n).toList = List.replicate n (.slice none 0 0) := by
      apply List.ext_getElem <;> simp [madeCells, Nat.mod_one]
    have e2 : (madeCells #[Value.bool false] n).toList = (List.replicate n false).map Value.bool := by
      apply List.ext_getElem <;> simp [madeCells, Nat.mod_one]
    rw [e1] at h1
    rw [e2] at h2
    have hro : ∀ (w : World) (a b m : Nat), ROff w a b (List.replicate m (.slice none 0 0)) (List.replicate m []) := by
      intro w a b m
      induction m with
      | zero => exact .nil
      | succ m ih => exact ROff.cons (ro := none) (rc := 0) (r := []) (IntsAt.nil _ _ _) (by simp) (fun _ => rfl) (by simp) (fun g o s h => by cases h) ih
    have hs1 : (W.alloc (.cells (madeCells #[.slice none 0 0] n) 22)).heap.size = W.heap.size + 1 := by simp
    rw [hs1] at h2
    refine ⟨(h1.alloc _).alloc _, hro _ _ _ _, h2.alloc _, ?_, by omega, (((Below.refl _ _).alloc (Nat.le_refl _) _).alloc (by simp) _).alloc (by simp; omega) _⟩
    simp [go_sem]
  have hbst0 : Bst g (List.replicate n false) (List.replicate n []) := by rw [HN.out]; exact bst_start g
  have HSH0 := Lib.hid hsh0
  have HBST0 := Lib.hid hbst0
  clear hsh0 hbst0 hgb gb
  go_wp2_with fail
  go_loopg [9] (2 * mu (List.replicate n false) (List.replicate n []) n + 1) (fun gk cv wr => ∃ (ch : Bool) (S : List Bool) (B : List (List Int)) (vs : List Value), gk = 2 * mu S B n + (if ch then 1 else 0) ∧ cv = .bool ch ∧ RowKit.Hid (Sh W wr W.heap.size (W.heap.size + 1) (W.heap.size + 1 + 1) n S B vs) ∧ RowKit.Hid (Bst g S B) ∧ RowKit.Hid (ch = false → Fixed g S B))
  case atStart => exact ⟨true, _, _, _, rfl, rfl, HSH0, HBST0, Lib.hid (fun h => by cases h)⟩
  clear HSH0 HBST0
  case round =>
    obtain ⟨ch, S0, B0, vs, rfl, rfl, hsh, hbst, hfix⟩ := hrel
    cases ch with
    | false =>
      have HF := Lib.hid (And.intro hbst.out (hfix.out rfl))
      have hcf := hsh.out.flag hqn
      have hcp := hsh.out.cell
      obtain ⟨bo, bc, hcb, hbi, hbm, _, _⟩ := hsh.out.word (by rw [hbst.out.blen, HN.out]) hqn
      have HB := Lib.hid hsh.out.below
      have HBI := Lib.hid hbi
      have HQ := Lib.hid (show q < g.length by rw [← HN.out]; exact hqn)
      obtain ⟨y, hy⟩ : ∃ y, y = S0.getD q false := ⟨_, rfl⟩
      rw [← hy] at hcf
      have HY := Lib.hid hy
      obtain ⟨l, hl⟩ : ∃ l, l = (B0.getD q []).length := ⟨_, rfl⟩
      rw [← hl] at hcb hbm
      have HL := Lib.hid hl
      unfold maxLen at hbm
      clear hsh hbst hfix hbi hy hl
      cases y with
      | false =>
        go_wp2_with fail
        go_ret2
        exact ⟨.inr (.inr ⟨HOK.out, q, rfl, HQ.out, S0, B0, HF.out.1, HF.out.2, .inl ⟨HY.out.symm, rfl⟩⟩), HB.out⟩
      | true =>
        by_cases h1000 : 1000 < l
        · have hd1 : decide (1000 < l) = true := by rw [decide_eq_true_iff]; exact h1000
          go_wp2_with fail
          go_ret2
          exact ⟨.inr (.inr ⟨HOK.out, q, rfl, HQ.out, S0, B0, HF.out.1, HF.out.2, .inr (.inl ⟨HY.out.symm, by rw [← HL.out]; exact h1000, rfl⟩)⟩), HB.out⟩
        · have hd1 : decide (1000 < l) = false := by rw [decide_eq_false_iff_not]; exact h1000
          go_wp2_with fail
          go_ret2
          exact ⟨.inr (.inr ⟨HOK.out, q, rfl, HQ.out, S0, B0, HF.out.1, HF.out.2, .inr (.inr ⟨HY.out.symm, by rw [← HL.out]; omega, bo, bc, by rw [← HL.out]; rfl, HBI.out⟩)⟩), HB.out⟩
    | true =>
      have HR0 := Lib.hid (show RndN g S0 S0 B0 B0 false (DoneN g S0 B0 0 0) from ⟨hbst.out, fun _ => ⟨rfl, rfl, fun k' j' h => by omega⟩, fun h => by cases h⟩)
      have HSH := Lib.hid hsh.out
      clear hsh hbst hfix
      go_wp2_with fail
      go_loopw [9, 40] (fun cv kv wr => ∃ (ch : Bool) (S : List Bool) (B : List (List Int)) (vs : List Value) (k : Nat), cv = .bool ch ∧ kv = .int .i64 k ∧ k ≤ n ∧ RowKit.Hid (Sh W wr W.heap.size (W.heap.size + 1) (W.heap.size + 1 + 1) n S B vs) ∧ RowKit.Hid (RndN g S0 S B0 B ch (DoneN g S0 B0 k 0))) (fun _ kv _ => n - (intOf kv).toNat)
      case atStart => exact ⟨false, S0, B0, vs, 0, rfl, rfl, by omega, HSH, HR0⟩
      clear HSH HR0
      case round =>
        obtain ⟨ch, S, B, vs, k, rfl, rfl, hk, hsh, hr⟩ := hrel
        by_cases hkn : k < n
        · obtain ⟨bg, og, ro, rc, hge, _, _, _, hrows, hcell⟩ := HX.out.get (j := k) (by rw [← HN.out]; exact hkn)
          subst hge
          have hcg := hcell wr hsh.out.below
          have HGI := Lib.hid (HG.out k (by rw [← HN.out]; exact hkn))
          obtain ⟨rs, hrs⟩ : ∃ rs, rs = g.getD k [] := ⟨_, rfl⟩
          rw [← hrs] at hcg hrows HGI
          have HRS := Lib.hid hrs
          have HRW := Lib.hid hrows
          have hr6 : rs.length ≤ 6 := HGI.out.1
          have HSH := Lib.hid hsh.out
          have HR := Lib.hid hr.out
          clear hrows hrs hcell hsh hr
          go_wp2_with fail
          go_loopw [9, 47] (fun cv jv wr => ∃ (ch : Bool) (S : List Bool) (B : List (List Int)) (vs : List Value) (j : Nat), cv = .bool ch ∧ jv = .int .i64 j ∧ j ≤ rs.length ∧ RowKit.Hid (Sh W wr W.heap.size (W.heap.size + 1) (W.heap.size + 1 + 1) n S B vs) ∧ RowKit.Hid (RndN g S0 S B0 B ch (DoneN g S0 B0 k j))) (fun _ jv _ => rs.length - (intOf jv).toNat)
          case atStart => exact ⟨ch, S, B, vs, 0, rfl, rfl, by omega, HSH, HR⟩
          clear HSH HR hcg
          case round =>
            obtain ⟨ch, S, B, vs, j, rfl, rfl, hj, hsh, hr⟩ := hrel
            by_cases hjl : j < rs.length
            · obtain ⟨bq, oq, so, sc, hroe, _, hrn, hrc, hints, hcell⟩ := HRW.out.get hjl
              subst hroe
              have hcq := hcell wr hsh.out.below
              obtain ⟨r, hrr⟩ : ∃ r, r = rs.getD j [] := ⟨_, rfl⟩
              have hr4 : r.length ≤ 4 := by rw [hrr]; exact (HGI.out.2 j hjl).1
              have HRX := Lib.hid (show ∀ x ∈ r, -(n : Int) ≤ x ∧ x ≤ 2 from by rw [hrr, HN.out]; exact (HGI.out.2 j hjl).2)
              have HRG := Lib.hid (show (g.getD k []).getD j [] = r by rw [← HRS.out, hrr])
              have HRM := Lib.hid (show r ∈ g.getD k [] by rw [← HRS.out, hrr]; simp [hjl])
              rw [← hrr] at hcq hints hrc hrn
              have HI := Lib.hid (show ∀ w, Below W.heap.size W w → IntsAt .i64 w so r from fun w hb => hints.below (Nat.le_refl _) hb)
              have HSL := Lib.hid (show S.length = n by rw [hr.out.bst.slen, HN.out])
              have HCT := Lib.hid (ctnFunc_any r so sc wr (hints.below (Nat.le_refl _) hsh.out.below) (by unfold maxLen; omega) 24 #[.pointer (some ⟨W.heap.size + 1 + 1, 0, none⟩)] (lacks S) (fun v w => entersS _ w)
                (fun x hxm m => short_asks x S (W.heap.size + 1) (W.heap.size + 1 + 1) n (wr.drewN m) hsh.out.cell (by exact (BoolsAt.of_owns hsh.out.flags).drewN m) HSL.out hn5 (HRX.out x hxm).1 |>.mono (fun e w' h => ⟨h.1, by obtain ⟨m2, h2⟩ := h.2; exact ⟨m + m2, by rw [h2]; exact drewN_drewN _ _ _⟩⟩)))
              have HSH := Lib.hid hsh.out
              have HR := Lib.hid hr.out
              clear hints hrr hcell hsh hr
              go_wp2_with fail
              refine HCT.out.mono ?_
              clear HCT
              rintro e w2 ⟨rfl, m, rfl⟩
              have HSH2 := Lib.hid (show Sh W (wr.drewN m) W.heap.size (W.heap.size + 1) (W.heap.size + 1 + 1) n S B vs from ⟨HSH.out.best, HSH.out.vals.keep (fun g _ _ _ => rfl) (Nat.le_refl _) (.inl rfl) (.inl rfl), HSH.out.flags, HSH.out.cell, HSH.out.ne, below_drewN HSH.out.below m⟩)
              clear HSH
              cases hany : r.any (lacks S) with
              | true =>
                have HR2 := Lib.hid (show RndN g S0 S B0 B ch (DoneN g S0 B0 k (j + 1)) from ⟨HR.out.bst, fun hc => ⟨(HR.out.quiet hc).1, (HR.out.quiet hc).2.1, (HR.out.quiet hc).2.2.next (fun hrd => by
                  rw [HRG.out, ← (HR.out.quiet hc).1] at hrd
                  rw [any_lacks.2 hrd] at hany
                  cases hany)⟩, HR.out.loud⟩)
                clear hany
                go_wp2_with fail
                go_roundw
                case rel => exact ⟨ch, S, B, vs, j + 1, rfl, by go_num, by omega, HSH2, HR2⟩
                case measure => simp [intOf]; omega
              | false =>
                have HRD := Lib.hid (any_lacks.1 hany)
                clear hany
                obtain ⟨wm, hwm⟩ : ∃ wm, wm = wr.drewN m := ⟨_, rfl⟩
                rw [← hwm] at HSH2 ⊢
                clear hwm
                have hbB := HR.out.bst.blen
                rw [← HN.out] at hbB
                have hc45 : 4 ^ S.count true ≤ 1024 := Nat.le_trans (Nat.pow_le_pow_right (by omega) (show S.count true ≤ 5 by have := count_le (S := S); have := HSL.out; omega)) (by decide)
                have HLEN := Lib.hid (show ∀ t, (cat B (r.take t)).length ≤ 4096 from fun t => by
                  have h1 := HR.out.bst.cat_len (r := r.take t) (fun x hx => by rw [← HN.out]; exact (HRX.out x (List.mem_of_mem_take hx)).1)
                  have h2 : (r.take t).length ≤ 4 := Nat.le_trans (List.length_take_le' _ _) hr4
                  have h3 := Nat.mul_le_mul h2 hc45
                  omega)
                go_wp2_with fail
                go_loopw [14, 56] (fun wv xv wr => ∃ t : Nat, xv = .int .i64 t ∧ t ≤ r.length ∧ wr.ownsRow wm.heap.size 3 1 wv (cat B (r.take t)).length ((cat B (r.take t)).map (Value.int .i64)) ∧ RowKit.Hid (Below wm.heap.size wm wr)) (fun _ xv _ => r.length - (intOf xv).toNat)
                case atStart => exact ⟨0, rfl, by omega, World.ownsRow_nil _ _ _ _, Lib.hid (Below.refl _ _)⟩
                case round =>
                  obtain ⟨t, rfl, ht, ho, hq⟩ := hrel
                  have hqs := hq.out.size
                  have HSH3 := Lib.hid (HSH2.out.keep hq.out)
                  have hl4 := HLEN.out t
                  by_cases htl : t < r.length
                  · obtain ⟨bx, ox, hse, hcx⟩ := HI.out wr HSH3.out.below t htl
                    subst hse
                    have hl5 := HLEN.out (t + 1)
                    have hxr := HRX.out (r.getD t 0) (by simp [htl])
                    have HCS := Lib.hid (show cat B (r.take (t + 1)) = cat B (r.take t) ++ (if r.getD t 0 < 0 then B.getD (-1 - r.getD t 0).toNat [] else [r.getD t 0]) by
                      rw [← cat_snoc]
                      congr 1
                      rw [List.take_add_one]
                      simp [htl])
                    obtain ⟨x, hx⟩ : ∃ x, x = r.getD t 0 := ⟨_, rfl⟩
                    rw [← hx] at hcx hxr HCS
                    have HO := Lib.hid ho
                    have HQ := Lib.hid hq.out
                    clear hx ho hq
                    by_cases hx0 : x < 0
                    · obtain ⟨wo, wc, hcb, hwi, hwm2, hwn, _⟩ := HSH3.out.word hbB (k := (-1 - x).toNat) (by omega)
                      rw [HCS.out, if_pos hx0] at hl5
                      rw [if_pos hx0] at HCS
                      obtain ⟨u, hu⟩ : ∃ u, u = B.getD (-1 - x).toNat [] := ⟨_, rfl⟩
                      rw [← hu] at hcb hwi hwn HCS hl5
                      rw [List.length_append] at hl5
                      have HWI := Lib.hid hwi
                      clear hu hwi hwm2
                      go_wp2_with (at_builtin; refine wpList_append_all _ rfl _ _ 22 rfl wm.heap.size 3 i0 (.int .i64 0) 1 8 Tryd.underlying22 hi0 hz0 hz1 hz2 rfl (by decide) _ (cat B (r.take t)).length _ rfl HO.out wo u.length wc (u.map (Value.int .i64)) rfl (by simp) hwn HWI.out.news (ints1 _ _) (by unfold maxLen; omega) (by omega) hqs ?_)
                      intro v7 w7 ho7 hg7
                      have hq7 := HQ.out.grown hg7 hqs (fun k hk => (HO.out.lt k hk).1)
                      rw [← List.map_append, ← HCS.out, ← List.length_append, ← HCS.out] at ho7
                      have HO7 := Lib.hid ho7
                      have HQ7 := Lib.hid hq7
                      clear ho7 hg7 hq7 HO HQ
                      go_wp2_with fail
                      go_roundw
                      case rel => exact ⟨t + 1, by go_num, by omega, HO7.out, HQ7⟩
                      case measure => simp [intOf]; omega
                    · rw [HCS.out, if_neg hx0] at hl5
                      rw [if_neg hx0] at HCS
                      rw [List.length_append] at hl5
                      go_wp2_with (at_builtin; refine wpList_push _ rfl _ _ 22 rfl wm.heap.size 3 i0 (.int .i64 0) 1 8 Tryd.underlying22 hi0 hz0 hz1 hz2 rfl (by decide) _ _ _ rfl (HO.out.alloc _) ⟨wr.heap.size, 0, none⟩ 1 [.int .i64 x] rfl rfl (cell_one_new _ _ _) (one1 _ _) (by unfold maxLen; omega) (by omega) (by simp; omega) ?_)
                      intro g7 cap w7 ho7 hg7
                      have hq7 := (HQ.out.alloc hqs (.cells #[.int .i64 x] 3)).grown hg7 (by simp; omega) (fun k hk => (HO.out.lt k hk).1)
                      have HM := Lib.hid (show (cat B (r.take t)).map (Value.int .i64) ++ [.int .i64 x] = (cat B (r.take (t + 1))).map (Value.int .i64) by rw [HCS.out]; simp)
                      have HL1 := Lib.hid (show (cat B (r.take t)).length + 1 = (cat B (r.take (t + 1))).length by rw [HCS.out]; simp)
                      rw [HM.out, HL1.out] at ho7
                      have HO7 := Lib.hid ho7
                      have HQ7 := Lib.hid hq7
                      have HL1' := HL1.out
                      clear ho7 hg7 hq7 HO HQ
                      go_wp2_with fail
                      go_roundw
                      case rel => exact ⟨t + 1, by go_num, by omega, by rw [← HL1.out] at HO7 ⊢; exact HO7.out, HQ7⟩
                      case measure => simp [intOf]; omega
                  · have hte : r.take t = r := List.take_of_length_le (by omega)
                    rw [hte] at ho hl4
                    obtain ⟨u, hu⟩ : ∃ u, u = cat B r := ⟨_, rfl⟩
                    rw [← hu] at ho hl4
                    obtain ⟨wo, wc, rfl⟩ := owns_shape ho
                    have HUU := Lib.hid hu
                    have hul : u.length ≤ maxLen := by unfold maxLen; omega
                    have HOW := Lib.hid ho
                    have hwc : u.length ≤ wc ∧ (wo = none → u.length = 0) := by
                      rcases ho.2 with ⟨h, h0⟩ | ⟨_, _, _, h, _, _, h1, _⟩
                      · simp only [Value.slice.injEq] at h
                        exact ⟨by omega, fun _ => h0⟩
                      · simp only [Value.slice.injEq] at h
                        obtain ⟨e1, _, e3⟩ := h
                        rw [e1, e3]
                        exact ⟨h1, fun h => by cases h⟩
                    have HROW := Lib.hid (show ROff wr W.heap.size (W.heap.size + 1) [.slice wo u.length wc] [u] from .cons (IntsAt.of_owns ho) hul hwc.2 hwc.1 (fun g' o s e => by
                      obtain ⟨h1a, h1b⟩ := ho.lt g' (by rw [e]; rfl)
                      have h2 : W.heap.size < wm.heap.size := (HSH2.out.best.lt _ rfl).2
                      have h3 : W.heap.size + 1 < wm.heap.size := (HSH2.out.flags.lt _ rfl).2
                      exact ⟨h1b, by omega, by omega⟩) .nil)
                    have hcf := HSH3.out.flag hkn
                    have hcp := HSH3.out.cell
                    obtain ⟨bo, bc, hcb, hbi, hbm, _, _⟩ := HSH3.out.word hbB hkn
                    have hfb := HSH3.out.best.frozenAt k
                    have hff := HSH3.out.flags.frozenAt k
                    have HTL := Lib.hid (tapeLess_any u (B.getD k []) wo bo wc bc wr (IntsAt.of_owns ho) hbi hul hbm)
                    obtain ⟨y, hy⟩ : ∃ y, y = S.getD k false := ⟨_, rfl⟩
                    rw [← hy] at hcf
                    have HY := Lib.hid hy
                    obtain ⟨bk, hbk⟩ : ∃ bk, bk = B.getD k [] := ⟨_, rfl⟩
                    rw [← hbk] at hcb HTL
                    have HBK := Lib.hid hbk
                    clear hu ho hq hbi hbm hy hbk hte
                    cases y with
                    | false =>
                      have HP := Lib.hid (HR.out.bst.put (k := k) (r := r) (by rw [← HN.out]; exact hn5) (by rw [← HN.out]; exact hkn) HRM.out hr4 (by rw [← HN.out]; exact HRX.out) HRD.out (.inl HY.out.symm))
                      go_wp2_with fail
                      go_region
                      have HS9 := Lib.hid (show Sh W (((wr.setCell ⟨W.heap.size, k, none⟩ (.slice wo u.length wc)).setCell ⟨W.heap.size + 1, k, none⟩ (.bool true)).drew) W.heap.size (W.heap.size + 1) (W.heap.size + 1 + 1) n (S.set k true) (B.set k u) (vs.set k (.slice wo u.length wc)) from (fun h => ⟨h.best, h.vals.keep (fun g _ _ _ => rfl) (Nat.le_refl _) (.inl rfl) (.inl rfl), h.flags, h.cell, h.ne, below_drewN h.below 1⟩) (HSH3.out.put HROW.out k))
                      have HR9 := Lib.hid (show RndN g S0 (S.set k true) B0 (B.set k u) true (DoneN g S0 B0 k (j + 1)) from ⟨by rw [HUU.out]; exact HP.out.1, (fun h => by cases h), fun _ => by
                        rw [HUU.out]
                        have h1 := HP.out.2
                        cases hch : ch with
                        | false =>
                          obtain ⟨e1, e2, _⟩ := HR.out.quiet hch
                          rw [e1, e2] at h1
                          rw [e1, e2]
                          exact h1
                        | true => exact Nat.lt_trans h1 (HR.out.loud hch)⟩)
                      clear HP HR HSH3 HROW HTL
                      go_wp2_with fail
                      go_roundw
                      case rel => exact ⟨true, _, _, _, j + 1, rfl, by go_num, by omega, HS9, HR9⟩
                      case measure => simp [intOf]; omega
                    | true =>
                      cases hsb : shorterB u bk with
                      | true =>
                        rw [hsb] at HTL
                        have HP := Lib.hid (HR.out.bst.put (k := k) (r := r) (by rw [← HN.out]; exact hn5) (by rw [← HN.out]; exact hkn) HRM.out hr4 (by rw [← HN.out]; exact HRX.out) HRD.out (.inr (by rw [← HUU.out, ← HBK.out]; exact shorterB_iff.1 hsb)))
                        clear hsb
                        go_wp2_with fail
                        refine HTL.out.mono ?_
                        rintro e w8 ⟨rfl, rfl⟩
                        go_wp2_with fail
                        go_region
                        have HS9 := Lib.hid (show Sh W (((wr.setCell ⟨W.heap.size, k, none⟩ (.slice wo u.length wc)).setCell ⟨W.heap.size + 1, k, none⟩ (.bool true)).drew) W.heap.size (W.heap.size + 1) (W.heap.size + 1 + 1) n (S.set k true) (B.set k u) (vs.set k (.slice wo u.length wc)) from (fun h => ⟨h.best, h.vals.keep (fun g _ _ _ => rfl) (Nat.le_refl _) (.inl rfl) (.inl rfl), h.flags, h.cell, h.ne, below_drewN h.below 1⟩) (HSH3.out.put HROW.out k))
                        have HR9 := Lib.hid (show RndN g S0 (S.set k true) B0 (B.set k u) true (DoneN g S0 B0 k (j + 1)) from ⟨by rw [HUU.out]; exact HP.out.1, (fun h => by cases h), fun _ => by
                          rw [HUU.out]
                          have h1 := HP.out.2
                          cases hch : ch with
                          | false =>
                            obtain ⟨e1, e2, _⟩ := HR.out.quiet hch
                            rw [e1, e2] at h1
                            rw [e1, e2]
                            exact h1
                          | true => exact Nat.lt_trans h1 (HR.out.loud hch)⟩)
                        clear HP HR HSH3 HROW HTL
                        go_wp2_with fail
                        go_roundw
                        case rel => exact ⟨true, _, _, _, j + 1, rfl, by go_num, by omega, HS9, HR9⟩
                        case measure => simp [intOf]; omega
                      | false =>
                        rw [hsb] at HTL
                        have HLE := Lib.hid (show Le (B.getD k []) (cat B r) from le_of_not (fun h => by
                          rw [← HUU.out, ← HBK.out] at h
                          rw [shorterB_iff.2 h] at hsb
                          cases hsb))
                        have HR2 := Lib.hid (show RndN g S0 S B0 B ch (DoneN g S0 B0 k (j + 1)) from ⟨HR.out.bst, fun hc => by
                          obtain ⟨e1, e2, hd⟩ := HR.out.quiet hc
                          refine ⟨e1, e2, hd.next (fun _ => ?_)⟩
                          rw [HRG.out, ← e1, ← e2]
                          exact ⟨HY.out.symm, HLE.out⟩, HR.out.loud⟩)
                        clear hsb HR HROW
                        go_wp2_with fail
                        refine HTL.out.mono ?_
                        rintro e w8 ⟨rfl, rfl⟩
                        clear HTL
                        go_wp2_with fail
                        go_roundw
                        case rel => exact ⟨ch, S, B, vs, j + 1, rfl, by go_num, by omega, HSH3, HR2⟩
                        case measure => simp [intOf]; omega
            · have HR2 := Lib.hid (show RndN g S0 S B0 B ch (DoneN g S0 B0 (k + 1) 0) from ⟨hr.out.bst, fun hc => ⟨(hr.out.quiet hc).1, (hr.out.quiet hc).2.1, (hr.out.quiet hc).2.2.name (by rw [← HRS.out]; omega)⟩, hr.out.loud⟩)
              have HSH := Lib.hid hsh.out
              clear hsh hr
              go_wp2_with fail
              go_roundw
              case rel => exact ⟨ch, S, B, vs, k + 1, rfl, by go_num, by omega, HSH, HR2⟩
              case measure => simp [intOf]; omega
        · have hke : k = n := by omega
          have HR2 := Lib.hid (show RowKit.Hid (Bst g S B) ∧ RowKit.Hid (ch = false → Fixed g S B) ∧ 2 * mu S B n + (if ch then 1 else 0) < 2 * mu S0 B0 n + 1 from by
            refine ⟨Lib.hid hr.out.bst, Lib.hid (fun h => ?_), ?_⟩
            · obtain ⟨e1, e2, hd⟩ := hr.out.quiet h
              rw [e1, e2]
              rw [hke, HN.out] at hd
              exact hd.fixed
            · cases ch with
              | false => obtain ⟨e1, e2, _⟩ := hr.out.quiet rfl; rw [e1, e2]; simp
              | true => have := hr.out.loud rfl; rw [← HN.out] at this; simp; omega)
          have HSH := Lib.hid hsh.out
          clear hsh hr
          go_wp2_with fail
          go_roundg (2 * mu S B n + (if ch then 1 else 0))
          case measure => simpa using HR2.out.2.2
          case rel => exact ⟨ch, S, B, vs, rfl, rfl, HSH, HR2.out.1, HR2.out.2.1⟩
end Go.Proofs.YtfdjnofkoegbdaaDoor
