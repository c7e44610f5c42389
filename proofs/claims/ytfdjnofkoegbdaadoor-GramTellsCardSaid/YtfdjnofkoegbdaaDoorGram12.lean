/- assayerref2.WordsOf. No conditions. -/
import Derived.Test.YtfdjnofkoegbdaaDoorGram2
import Derived.Test.YtfdjnofkoegbdaaDoorGramW
import Derived.Test.YtfdjnofkoegbdaaDoorQueue
import Derived.Test.YtfdjnofkoegbdaaDoorMore
import Derived.Deep.LoopGhost
namespace Go.Proofs.YtfdjnofkoegbdaaDoor
open Go.RowKit Go.Mine Go.Mine.Gram

theorem infoW : (Tryd.prog.info? 22).map (fun i => (i.zero, i.size, i.bytes)) = some (some (.slice none 0 0), 1, 24) := by kernel_rfl
/-- What is told so far. -/
structure Wo (W w : World) (gq c : Nat) (vs : List Value) (rows : List (List Int)) : Prop where
  own : w.ownsRow W.heap.size 22 1 (.slice (some ⟨gq, 0, none⟩) rows.length c) rows.length vs
  off : ROff w gq gq vs rows
  below : Below W.heap.size W w
theorem Wo.rows {W w : World} {gq c : Nat} {vs : List Value} {rows : List (List Int)} (h : Wo W w gq c vs rows) : RowsAt w (some ⟨gq, 0, none⟩) rows := RowsAt.of_owns h.own h.off.vals
theorem Wo.keep {W w w' : World} {gq c : Nat} {vs : List Value} {rows : List (List Int)} (h : Wo W w gq c vs rows) (hb : Below w.heap.size w w') : Wo W w' gq c vs rows :=
  ⟨owns_below h.own hb, h.off.keep (fun g hg _ _ => hb.block g hg) hb.size (.inl rfl) (.inl rfl), h.below.trans (hb.mono h.below.size)⟩
theorem Wo.push {W w w' : World} {gq c g' n cap : Nat} {vs : List Value} {x : Value} {r : List Int} {rows : List (List Int)} {o : Obj} (h : Wo W w gq c vs rows) (hx : ROff w gq gq [x] [r])
    (ho : w'.ownsRow W.heap.size 22 1 (.slice (some ⟨g', 0, none⟩) n cap) n (vs ++ [x])) (hn : n = rows.length + 1) (hg : (w.alloc o).grownBy w' (some gq)) (hat : g' = gq ∨ g' = w.heap.size + 1) : Wo W w' g' cap (vs ++ [x]) (rows ++ [r]) := by
  have hs := hg.size
  have hs2 : (w.alloc o).heap.size = w.heap.size + 1 := by simp
  have hq := (h.own.lt gq rfl)
  have hgq : g' = gq ∨ w.heap.size ≤ g' := by omega
  refine ⟨by rw [List.length_append, List.length_singleton, ← hn]; exact ho, (h.off.append hx).keep (fun g h1 h2 _ => ?_) (by omega) hgq hgq, ?_⟩
  · rw [hg.block g (by omega) (fun e => h2 (by simpa using e)), Below.heap_alloc _ _ _ h1]
  · exact (h.below.alloc h.below.size o).grown hg (by rw [hs2]; have := h.below.size; omega) (fun k hk => by simp only [Option.some.injEq] at hk; omega)
/-- What WordsOf tells. -/
def WOPost (N : Nat) (e : Ending) (w' : World) : Prop := ∃ P ao c, AllW N P ∧ P.length ≤ 121 ∧ e = .returned (.slice ao P.length c) ∧ RowsAt w' ao P

set_option maxHeartbeats 2000000 in
set_option maxRecDepth 100000 in
theorem wordsOf_any (N : Nat) (hN : N ≤ 4) (W : World) : Calls Tryd.prog 13 #[.int .i64 N] W fun e w' => WOPost N e w' ∧ Below W.heap.size W w' := by
  obtain ⟨i0, hi0, hz0, hz1, hz2⟩ := info_parts infoW
  obtain ⟨j0, hj0, hy0, hy1, hy2⟩ := info_parts infoI
  have hst0 : Wo W (W.alloc (.cells #[.slice none 0 0] 22)) W.heap.size 1 [.slice none 0 0] [[]] :=
    ⟨World.ownsRow_lit W #[.slice none 0 0] 1 (Nat.le_refl _) (by simp [maxLen]) rfl, ROff.cons (ro := none) (rc := 0) (r := []) (IntsAt.nil _ _ _) (by simp) (fun _ => rfl) (by simp) (fun g o s h => by cases h) .nil, (Below.refl _ _).alloc (Nat.le_refl _) _⟩
  have HST0 := Lib.hid hst0
  clear hst0
  have hwt : wt N ≤ 121 := by
    rcases (show N = 0 ∨ N = 1 ∨ N = 2 ∨ N = 3 ∨ N = 4 by omega) with rfl | rfl | rfl | rfl | rfl <;> decide
  go_enter Tryd.func13, Tryd.ntmps13
  go_wp2_with fail
  go_loopg [3, 4] (wts N [[]]) (fun gk ov kv wr => ∃ (P Q : List (List Int)) (gq c : Nat) (vs : List Value), gk = wts N Q ∧ kv = .int .i64 P.length ∧ ov = .slice (some ⟨gq, 0, none⟩) (P ++ Q).length c ∧ RowKit.Hid (Bq N P Q) ∧ RowKit.Hid (Wo W wr gq c vs (P ++ Q)))
  case atStart => exact ⟨[], [[]], W.heap.size, 1, [.slice none 0 0], rfl, rfl, rfl, Lib.hid .start, HST0⟩
  clear HST0
  case round =>
    obtain ⟨P, Q, gq, c, vs, rfl, rfl, rfl, hbq, hst⟩ := hrel
    have hmany := hbq.out.facts.many
    have hpl : P.length ≤ 121 := by omega
    cases Q with
    | nil =>
      rw [List.append_nil] at hst ⊢
      have HA := Lib.hid hst.out.rows
      have HB := Lib.hid hst.out.below
      have HBQ := Lib.hid hbq.out.allW
      clear hst hbq
      go_wp2_with fail
      go_ret
      exact ⟨⟨P, _, c, HBQ.out, hpl, rfl, HA.out⟩, HB.out⟩
    | cons w Q =>
      have hwv := hbq.out.facts.valid w (by simp)
      have hql : Q.length + 1 ≤ 121 := by
        have := wts_len N (w :: Q)
        simp only [List.length_cons] at this
        omega
      have HSTEP := Lib.hid (hbq.out.step)
      have HMS := Lib.hid (show wts N (Q ++ chk N w 3) < wts N (w :: Q) by
        have := wts_chk N w hwv.1
        rw [wts_append]
        simp only [wts, List.map_cons, List.sum_cons] at this ⊢
        omega)
      have hlen : (P ++ w :: Q).length = P.length + (Q.length + 1) := by simp
      obtain ⟨b, o, ro, rc, hge, hc, _, hm, hrn, _⟩ := hst.out.rows P.length (by rw [hlen]; omega)
      cases hge
      have hgw : (P ++ w :: Q).getD P.length [] = w := by simp
      rw [hgw, Nat.zero_add] at hc
      have HST := Lib.hid hst.out
      rw [hlen]
      clear hst hbq hm hrn hgw
      have hd0 : decide ((P.length : Int) < (P.length : Int) + ((Q.length : Int) + 1)) = true := by rw [decide_eq_true_iff]; omega
      by_cases hwl : w.length < N
      · have hd1 : decide ((w.length : Int) < (N : Int)) = true := by rw [decide_eq_true_iff]; omega
        have hd2 : decide (w.length < N) = true := by rw [decide_eq_true_iff]; omega
        go_wp2_with fail
        go_loopw [3, 5] (fun ov xv wr => ∃ (x gq c : Nat) (vs : List Value), xv = .int .i64 x ∧ x ≤ 3 ∧ ov = .slice (some ⟨gq, 0, none⟩) ((P ++ w :: Q) ++ chk N w x).length c ∧ RowKit.Hid (Wo W wr gq c vs ((P ++ w :: Q) ++ chk N w x))) (fun _ xv _ => 3 - (intOf xv).toNat)
        case atStart => exact ⟨0, gq, c, vs, rfl, by omega, by rw [chk_zero, List.append_nil, hlen], by rw [chk_zero, List.append_nil]; exact HST⟩
        clear HST hc
        case round =>
          obtain ⟨x, gq, c, vs, rfl, hx3, rfl, hst⟩ := hrel
          have hcl : (chk N w x).length ≤ 3 := by unfold chk; rw [if_pos hwl]; simpa using hx3
          obtain ⟨T, hT⟩ : ∃ T, T = (P ++ w :: Q) ++ chk N w x := ⟨_, rfl⟩
          have hTl : T.length ≤ 300 := by rw [hT, List.length_append, hlen]; omega
          have hPT : P.length < T.length := by rw [hT, List.length_append, hlen]; omega
          have hTw : T.getD P.length [] = w := by rw [hT, List.append_assoc]; simp
          rw [← hT] at hst ⊢
          by_cases hx : x < 3
          · have HCH := Lib.hid (show (P ++ w :: Q) ++ chk N w (x + 1) = T ++ [w ++ [(x : Int)]] by rw [chk_succ hwl, hT]; simp)
            have hbE : Below wr.heap.size wr (wr.alloc (.cells #[] 3)) := (Below.refl _ _).alloc (Nat.le_refl _) _
            have HWE := Lib.hid (hst.out.keep hbE)
            obtain ⟨b, o, ro, rc, hge, hc, hri, hrm, hrn, _⟩ := HWE.out.rows P.length hPT
            cases hge
            rw [hTw] at hc hri hrm hrn
            rw [Nat.zero_add] at hc
            have HRI := Lib.hid hri
            have hoE : (wr.alloc (.cells #[] 3)).ownsRow wr.heap.size 3 1 (.slice (some ⟨wr.heap.size, 0, none⟩) 0 0) 0 [] :=
              World.ownsRow_lit wr #[] 0 (Nat.le_refl _) (by simp [maxLen]) rfl
            have HOE := Lib.hid hoE
            have HBE := Lib.hid hbE
            have HGQ := Lib.hid (hst.out.own.lt gq rfl).2
            have HST := Lib.hid hst.out
            clear hst hT hTw hbE hri hoE
            go_wp2_with (at_builtin; refine wpList_append_any _ rfl _ _ 22 rfl wr.heap.size 3 j0 (.int .i64 0) 1 8 Tryd.underlying22 hj0 hy0 hy1 hy2 rfl (by decide) wr.heap.size 0 0 [] rfl HOE.out ro w.length rc (w.map (Value.int .i64)) rfl (by simp) hrn HRI.out.news (ints1 _ _) (by unfold maxLen; omega) (by omega) (by simp) _ rfl ?_)
            intro g1 c1 w1 ho1 hg1 hat1 hlt1
            have hb1 : Below wr.heap.size wr w1 := HBE.out.grown hg1 (by simp) (fun k hk => by simp only [Option.some.injEq] at hk; omega)
            have hs1 := hb1.size
            have hg1b := (ho1.lt g1 rfl).1
            have HO1 := Lib.hid ho1
            have HB1 := Lib.hid hb1
            clear ho1 hg1 hat1 hb1 HOE HBE
            go_wp2_with (at_builtin; refine wpList_append_any _ rfl _ _ 22 rfl wr.heap.size 3 j0 (.int .i64 0) 1 8 Tryd.underlying22 hj0 hy0 hy1 hy2 rfl (by decide) g1 w.length c1 (w.map (Value.int .i64)) rfl (HO1.out.alloc _) (some ⟨w1.heap.size, 0, none⟩) 1 1 [.int .i64 x] rfl rfl (fun h => by cases h) (fun ad had => by cases had; exact cell_one_new _ _ _) (by intro u hu; simp at hu; subst hu; rfl) (by unfold maxLen; omega) (by omega) (by simp; omega) _ rfl ?_)
            intro g2 c2 w2 ho2 hg2 hat2 hlt2
            have hb2 : Below wr.heap.size wr w2 := (HB1.out.alloc hs1 (.cells #[.int .i64 x] 3)).grown hg2 (by simp; omega) (fun k hk => by simp only [Option.some.injEq] at hk; omega)
            have hs2 := hb2.size
            have hg2b := (ho2.lt g2 rfl).1
            have hc2 : w.length + 1 ≤ c2 := by
              rcases ho2.2 with ⟨h, _⟩ | ⟨_, _, _, h, _, _, h1, _⟩
              · cases h
              · cases h; exact h1
            have hrow : ROff w2 gq gq [.slice (some ⟨g2, 0, none⟩) (w.length + 1) c2] [w ++ [(x : Int)]] := by
              have hwl1 : (w ++ [(x : Int)]).length = w.length + 1 := by simp
              have := ROff.cons (w := w2) (q := gq) (p := gq) (ro := some ⟨g2, 0, none⟩) (rc := c2) (r := w ++ [(x : Int)]) (vs := []) (rows := []) (IntsAt.of_owns (n := w.length + 1) (by simpa using ho2)) (by rw [hwl1]; unfold maxLen; omega) (fun h => by cases h) (by rw [hwl1]; exact hc2) (fun g o s e => by
                cases e
                have := HGQ.out
                exact ⟨hlt2, by omega, by omega⟩) .nil
              rw [hwl1] at this
              exact this
            have HW2 := Lib.hid (HST.out.keep hb2)
            have HROW := Lib.hid hrow
            clear ho2 hg2 hat2 hrow HO1 HB1 HST HWE hb2
            go_wp2_with (at_builtin; refine wpList_push2 _ rfl _ _ 36 rfl W.heap.size 22 i0 (.slice none 0 0) 1 24 Tryd.underlying36 hi0 hz0 hz1 hz2 rfl (by decide) _ _ _ rfl (HW2.out.own.alloc _) ⟨w2.heap.size, 0, none⟩ 1 [.slice (some ⟨g2, 0, none⟩) (w.length + 1) c2] rfl rfl (cell_one_new _ _ _) (by intro u hu; simp at hu; subst hu; rfl) (by unfold maxLen; omega) (by omega) (by have := HW2.out.below.size; simp; omega) ?_)
            intro g7 cap w7 ho7 hg7 hat
            have hat' : g7 = gq ∨ g7 = w2.heap.size + 1 := by
              rcases hat with h1 | h1
              · exact .inl (by simpa [Value.ownBlock] using h1.symm)
              · exact .inr h1
            have HS7 := Lib.hid (HW2.out.push HROW.out ho7 rfl hg7 hat')
            clear ho7 hg7 hat hat' HW2 HROW
            go_wp2_with fail
            go_roundw
            case rel => exact ⟨x + 1, g7, cap, _, by go_num, by omega, by rw [HCH.out, List.length_append]; rfl, by rw [HCH.out]; exact HS7⟩
            case measure => simp [intOf]; omega
          · obtain rfl : x = 3 := by omega
            have HTT := Lib.hid (show T = (P ++ [w]) ++ (Q ++ chk N w 3) by rw [hT]; simp)
            have HS := Lib.hid hst.out
            clear hst hT hTw
            go_wp2_with fail
            go_roundg (wts N (Q ++ chk N w 3))
            case measure => exact HMS.out
            case rel => exact ⟨P ++ [w], Q ++ chk N w 3, gq, c, vs, rfl, by rw [List.length_append]; go_num, by rw [← HTT.out], HSTEP, by rw [← HTT.out]; exact HS⟩
      · have HCN := Lib.hid (show (P ++ [w]) ++ (Q ++ chk N w 3) = P ++ w :: Q by rw [chk_none hwl]; simp)
        go_wp2_with fail
        go_roundg (wts N (Q ++ chk N w 3))
        case measure => exact HMS.out
        case rel => exact ⟨P ++ [w], Q ++ chk N w 3, gq, c, vs, rfl, by rw [List.length_append]; go_num, by rw [HCN.out, hlen], HSTEP, by rw [HCN.out]; exact HST⟩
end Go.Proofs.YtfdjnofkoegbdaaDoor
