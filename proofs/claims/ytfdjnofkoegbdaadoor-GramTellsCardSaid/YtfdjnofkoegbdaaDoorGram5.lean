/- gram.Words. No conditions. -/
import Derived.Test.YtfdjnofkoegbdaaDoorGram3
import Derived.Test.YtfdjnofkoegbdaaDoorGramW
import Derived.Test.YtfdjnofkoegbdaaDoorQueue
import Derived.Test.YtfdjnofkoegbdaaDoorConcat2
import Derived.Deep.LoopGhost
namespace Go.Proofs.YtfdjnofkoegbdaaDoor
open Go.RowKit Go.Mine Go.Mine.Gram
open Classical in
/-- The words that are told, of those that are done. -/
noncomputable def told (g : List (List (List Int))) (P : List (List Int)) : List (List Int) := P.filter fun w => decide (Word g w)
theorem told_yes {g : List (List (List Int))} {P : List (List Int)} {w : List Int} (h : Word g w) : told g (P ++ [w]) = told g P ++ [w] := by simp [told, h]
theorem told_no {g : List (List (List Int))} {P : List (List Int)} {w : List Int} (h : ¬ Word g w) : told g (P ++ [w]) = told g P := by simp [told, h]
theorem infoR : (Tryd.prog.info? 22).map (fun i => (i.zero, i.size, i.bytes)) = some (some (.slice none 0 0), 1, 24) := by kernel_rfl

/-- What Words tells. -/
def WordsPost (g : List (List (List Int))) (n : Int) (e : Ending) (w' : World) : Prop :=
  (¬ gok g ∧ e = .returned (.tuple #[.slice none 0 0, .iface 30 (.int .i64 (gfault g))])) ∨
  (gok g ∧ ¬ (0 ≤ n ∧ n ≤ 4) ∧ e = .returned (.tuple #[.slice none 0 0, .iface 30 (.int .i64 1)])) ∨
  (gok g ∧ ∃ N : Nat, n = N ∧ N ≤ 4 ∧ ∃ P ao c, AllW N P ∧ e = .returned (.tuple #[.slice ao (told g P).length c, .nilIface]) ∧ RowsAt w' ao (told g P) ∧ P.length ≤ 121)

set_option maxHeartbeats 4000000 in
set_option maxRecDepth 100000 in
theorem words_any (g : List (List (List Int))) (n : Int) (go' : Option Addr) (gc : Nat) (W : World) (hx : GridAt W go' g) (hl : g.length ≤ maxLen) :
    Calls Tryd.prog 14 #[.slice go' g.length gc, .int .i64 n] W fun e w' => WordsPost g n e w' ∧ Below W.heap.size W w' := by
  obtain ⟨i0, hi0, hz0, hz1, hz2⟩ := info_parts infoR
  have HC := Lib.hid (gcheck_any g go' gc W hx hl)
  have HX := Lib.hid (show ∀ w, Below W.heap.size W w → GridAt w go' g from fun w hb => hx.below (Nat.le_refl _) hb)
  have HL := Lib.hid hl
  clear hx
  go_enter Tryd.func14, Tryd.ntmps14
  go_wp2_with fail
  refine HC.out.mono ?_
  clear HC
  rintro e w1 ⟨⟨hok, rfl⟩ | ⟨hno, rfl⟩, rfl⟩
  rotate_left
  · have HNO := Lib.hid hno
    clear hno
    go_wp2_with fail
    go_ret2
    exact ⟨.inl ⟨HNO.out, rfl⟩, Below.refl _ _⟩
  have HOK := Lib.hid hok
  clear hok
  by_cases hn0 : n < 0
  · go_wp2_with fail
    go_ret2
    exact ⟨.inr (.inl ⟨HOK.out, by omega, rfl⟩), Below.refl _ _⟩
  by_cases hn4 : 4 < n
  · go_wp2_with fail
    go_ret2
    exact ⟨.inr (.inl ⟨HOK.out, by omega, rfl⟩), Below.refl _ _⟩
  obtain ⟨N, rfl⟩ := Int.eq_ofNat_of_zero_le (show 0 ≤ n by omega)
  have hN4 : N ≤ 4 := by omega
  have hst0 : St 22 W (W.alloc (.cells #[.slice none 0 0] 22)) [[]] W.heap.size 0 1 [.slice none 0 0] (.slice none 0 0) (told g []) [] W.heap.size := by
    have ho : (W.alloc (.cells #[.slice none 0 0] 22)).ownsRow W.heap.size 22 1 (.slice (some ⟨W.heap.size, 0, none⟩) 1 1) 1 [.slice none 0 0] :=
      World.ownsRow_lit W #[.slice none 0 0] 1 (Nat.le_refl _) (by simp [maxLen]) rfl
    have hrow : ROff (W.alloc (.cells #[.slice none 0 0] 22)) W.heap.size W.heap.size [.slice none 0 0] [[]] :=
      ROff.cons (ro := none) (rc := 0) (r := []) (IntsAt.nil _ _ _) (by simp) (fun _ => rfl) (by simp) (fun g o s h => by cases h) .nil
    exact ⟨QueueAt.of_owns ho, hrow, World.ownsRow_nil _ _ _ _, .nil, .inl rfl, (fun h => by cases h), (Below.refl _ _).alloc (Nat.le_refl _) _, by simp⟩
  have HST0 := Lib.hid hst0
  clear hst0
  have hwt : wt N ≤ 121 := by
    rcases (show N = 0 ∨ N = 1 ∨ N = 2 ∨ N = 3 ∨ N = 4 by omega) with rfl | rfl | rfl | rfl | rfl <;> decide
  go_wp2_with fail
  go_loopg [7, 8] (wts N [[]]) (fun k ov tv wr => ∃ (P Q : List (List Int)) (gq oq cq : Nat) (vq vo : List Value) (p : Nat), k = wts N Q ∧ tv = .slice (some ⟨gq, oq, none⟩) Q.length cq ∧ RowKit.Hid (Bq N P Q) ∧ RowKit.Hid (St 22 W wr Q gq oq cq vq ov (told g P) vo p))
  case atStart => exact ⟨[], [[]], W.heap.size, 0, 1, [.slice none 0 0], [], W.heap.size, rfl, rfl, Lib.hid .start, HST0⟩
  clear HST0
  case round =>
    obtain ⟨P, Q, gq, oq, cq, vq, vo, p, rfl, rfl, hbq, hst⟩ := hrel
    have hmany := hbq.out.facts.many
    cases Q with
    | nil =>
      obtain ⟨ao, ac, rfl⟩ := owns_shape hst.out.out
      have HA := Lib.hid (RowsAt.of_owns hst.out.out hst.out.ooff.vals)
      have HB := Lib.hid hst.out.below
      have HBQ := Lib.hid hbq.out.allW
      have hpl : P.length ≤ 121 := by omega
      clear hst hbq
      go_wp2_with fail
      go_ret2
      exact ⟨.inr (.inr ⟨HOK.out, N, rfl, hN4, P, ao, ac, HBQ.out, rfl, HA.out, hpl⟩), HB.out⟩
    | cons w Q =>
      obtain ⟨v0, vq, rfl⟩ : ∃ v vs, vq = v :: vs := by
        cases vq with
        | nil => have := hst.out.queue.len; simp at this
        | cons v vs => exact ⟨v, vs, rfl⟩
      obtain ⟨ro, rc, rfl, hri, hrl, hrn, hrc⟩ := hst.out.qoff.head.1.one
      have hc0 := hst.out.queue.cell (j := 0) rfl
      rw [Nat.add_zero] at hc0
      have hqn : (w :: Q).length = Q.length + 1 := by simp
      have hwv := hbq.out.facts.valid w (by simp)
      have hql : Q.length + 1 ≤ 121 := by
        have := wts_len N (w :: Q)
        simp only [List.length_cons] at this
        omega
      have hpl : P.length ≤ 121 := by omega
      have HSTEP := Lib.hid (hbq.out.step)
      have HMS := Lib.hid (show wts N (Q ++ chk N w 3) < wts N (w :: Q) by
        have := wts_chk N w hwv.1
        rw [wts_append]
        simp only [wts, List.map_cons, List.sum_cons] at this ⊢
        omega)
      have HH := Lib.hid (has_any g w go' ro gc rc wr (HX.out wr hst.out.below) HL.out hri (by unfold maxLen; omega))
      have hcq := hst.out.queue.le
      rw [hqn] at hcq ⊢
      clear hbq hri
      go_wp2_with fail
      refine HH.out.mono ?_
      clear HH
      rintro e w2 ⟨hp, hb2⟩
      have HS2 := Lib.hid (hst.out.call hb2)
      clear hst hb2
      rcases hp with ⟨h, _⟩ | ⟨_, h, _⟩ | ⟨_, _, b, rfl, hbw⟩
      · exact absurd HOK.out h
      · omega
      have htl : (told g P).length ≤ P.length := List.length_filter_le _ _
      cases b
      case' true =>
        have HT := Lib.hid (told_yes (P := P) (hbw.1 rfl))
        clear hbw
        go_wp2_with (at_builtin; refine wpList_push2 _ rfl _ _ 36 rfl W.heap.size 22 i0 (.slice none 0 0) 1 24 Tryd.underlying36 hi0 hz0 hz1 hz2 rfl (by decide) _ _ _ rfl (HS2.out.out.alloc _) ⟨w2.heap.size, 0, none⟩ 1 [.slice ro w.length rc] rfl rfl (cell_one_new _ _ _) (by intro u hu; simp at hu; subst hu; rfl) (by unfold maxLen; omega) (by omega) (by have := HS2.out.below.size; simp; omega) ?_)
        intro g7 cap w3 ho7 hg7 hat
        have hst7 := HS2.out.out_push HS2.out.qoff.head.1 ho7 rfl hg7 hat
        rw [← HT.out] at hst7
        obtain ⟨vo3, hvo3⟩ : ∃ vo3, vo3 = vo ++ [.slice ro w.length rc] := ⟨_, rfl⟩
        obtain ⟨o3, ho3⟩ : ∃ o3 : Value, o3 = .slice (some ⟨g7, 0, none⟩) ((told g P).length + 1) cap := ⟨_, rfl⟩
        rw [← hvo3, ← ho3] at hst7
        rw [← ho3]
        obtain ⟨p3, hp3⟩ : ∃ p3, p3 = g7 := ⟨_, rfl⟩
        rw [← hp3] at hst7
        have HS3 := Lib.hid hst7
        clear ho7 hg7 hat HS2 hst7 HT hvo3 ho3 hp3
      case' false =>
        have HT := Lib.hid (told_no (P := P) (fun h => by have := hbw.2 h; cases this))
        have hst7 := HS2.out
        rw [← HT.out] at hst7
        obtain ⟨vo3, hvo3⟩ : ∃ vo3, vo3 = vo := ⟨_, rfl⟩
        obtain ⟨o3, ho3⟩ : ∃ o3 : Value, o3 = u7 := ⟨_, rfl⟩
        obtain ⟨p3, hp3⟩ : ∃ p3, p3 = p := ⟨_, rfl⟩
        obtain ⟨w3, hw3⟩ : ∃ w3, w3 = w2 := ⟨_, rfl⟩
        rw [← hvo3, ← ho3, ← hp3, ← hw3] at hst7
        rw [← ho3, ← hw3]
        have HS3 := Lib.hid hst7
        clear HT hst7 HS2 hvo3 hp3 hw3 ho3 hbw
      all_goals
        go_wp2_with fail
        go_loopw [8, 48] (fun tv xv wr => ∃ (x gq oq cq : Nat) (vq : List Value), xv = .int .i64 x ∧ x ≤ 3 ∧ tv = .slice (some ⟨gq, oq, none⟩) (w :: (Q ++ chk N w x)).length cq ∧ RowKit.Hid (St 22 W wr (w :: (Q ++ chk N w x)) gq oq cq (.slice ro w.length rc :: vq) o3 (told g (P ++ [w])) vo3 p3)) (fun _ xv _ => 3 - (intOf xv).toNat)
        case atStart => exact ⟨0, gq, oq, cq, vq, rfl, by omega, by rw [chk_zero, List.append_nil, hqn], by rw [chk_zero, List.append_nil]; exact HS3⟩
      all_goals
        clear HS3 hc0 hcq
        case round =>
          obtain ⟨x, gq, oq, cq, vq, rfl, hx3, rfl, hst⟩ := hrel
          have hqlen : (w :: (Q ++ chk N w x)).length ≤ 200 := by
            have : (chk N w x).length ≤ 3 := by unfold chk; split <;> simp; omega
            simp only [List.length_cons, List.length_append]
            omega
          by_cases hxl : x < 3
          · by_cases hwl : w.length < N
            · have HCH := Lib.hid (chk_succ hwl x)
              obtain ⟨ro', rc', hroe, hri, _, _, _⟩ := hst.out.qoff.head.1.one
              cases hroe
              obtain ⟨w5, hw5⟩ : ∃ w5, w5 = (wr.alloc (.cells #[.int .i64 x] 3)).alloc (.cells #[.slice ro w.length rc, .slice (some ⟨wr.heap.size, 0, none⟩) 1 1] 22) := ⟨_, rfl⟩
              have hb5 : Below wr.heap.size wr w5 := by rw [hw5]; exact ((Below.refl _ _).alloc (Nat.le_refl _) _).alloc (by simp) _
              have hcat := concat_two (wr.heap.size + 1) ro (some ⟨wr.heap.size, 0, none⟩) rc 1 w [(x : Int)] w5 (by rw [hw5]; simp [go_sem]) (by rw [hw5]; simp [go_sem]) (hri.below (Nat.le_refl _) hb5)
                (fun j hj => by obtain rfl : j = 0 := (by simp at hj; omega); exact ⟨_, 0, rfl, by rw [hw5]; simp [go_sem]⟩) hrn (fun h => by cases h) (by simp; omega)
              have hst5 := hst.out.call hb5
              have hs5 : w5.heap.size = wr.heap.size + 2 := by rw [hw5]; simp
              rw [hw5] at hcat hst5
              rw [hw5] at hs5
              have HCAT := Lib.hid hcat
              have HS5 := Lib.hid hst5
              clear hst hri hb5 hcat hst5 hw5 w5
              go_wp2_with fail
              refine HCAT.out.mono ?_
              clear HCAT
              rintro e w6 ⟨v6, rfl, ho6, hb6⟩
              have hst6 := HS5.out.call hb6
              obtain ⟨g6, c6, hv6, hrow⟩ := HS5.out.fresh ho6 (by simp) (by simp [maxLen]; omega)
              subst hv6
              have hs6 := hst6.queue.lt
              have hba : Below w6.heap.size w6 (w6.alloc (.cells #[.slice (some ⟨g6, 0, none⟩) (w ++ [(x : Int)]).length c6] 22)) := (Below.refl _ _).alloc (Nat.le_refl _) _
              have hst7 := hst6.call hba
              have hrow7 := hrow.keep (q' := gq) (p' := p3) (fun g hg _ _ => hba.block g hg) hba.size (.inl rfl) (.inl rfl)
              obtain ⟨r, hr⟩ : ∃ r, r = w ++ [(x : Int)] := ⟨_, rfl⟩
              rw [← hr] at hst7 hrow7 HCH
              have hrl : r.length = w.length + 1 := by rw [hr]; simp
              rw [hrl] at hst7 hrow7
              rw [← hr]
              rw [hrl]
              clear hrl
              obtain ⟨T, hT⟩ : ∃ T, T = w :: (Q ++ chk N w x) := ⟨_, rfl⟩
              have HT2 := Lib.hid (show w :: (Q ++ chk N w (x + 1)) = T ++ [r] by rw [HCH.out, hT]; simp)
              rw [← hT] at hst7 hqlen ⊢
              have HS7 := Lib.hid hst7
              have HR7 := Lib.hid hrow7
              clear hst6 hrow hba hst7 hrow7 ho6 hb6 HS5 hT
              have hlo : (Value.slice ro w.length rc :: vq).length = T.length * 1 := by rw [Nat.mul_one]; exact HS7.out.queue.len
              have HLO := Lib.hid hlo
              clear hlo
              have HB1 := Lib.hid (show T.length + 1 ≤ maxLen by unfold maxLen; omega)
              have HB2 := Lib.hid (show (T.length + 1) * 24 ≤ 140737488355328 by omega)
              go_wp2_with (at_builtin; refine wpList_append_arg _ rfl _ _ 36 rfl 22 i0 (.slice none 0 0) 1 24 Tryd.underlying36 hi0 hz0 hz1 hz2 rfl (by decide) gq oq T.length cq (.slice ro w.length rc :: vq) rfl HLO.out (fun j u hu => HS7.out.queue.cell hu) ⟨w6.heap.size, 0, none⟩ 1 1 [.slice (some ⟨g6, 0, none⟩) (w.length + 1) c6] rfl rfl (cell_one_new _ _ _) (by intro u hu; simp at hu; subst hu; rfl) (fun h => HS7.out.queue.spare h) HB1.out HB2.out ?_ ?_)
              · intro hroom
                have hst8 := HS7.out.queue_room HR7.out hroom
                rw [Nat.mul_one] at hst8
                have HS8 := Lib.hid hst8
                clear HS7 HR7 hst8
                go_wp2_with fail
                go_roundw
                case rel => exact ⟨x + 1, gq, oq, cq, vq ++ [_], by go_num, by omega, by rw [HT2.out, List.length_append]; rfl, by rw [HT2.out]; exact HS8⟩
                case measure => simp [intOf]; omega
              · intro hfull v' w8 ho8 hg8
                rw [show w6.heap.size + 1 = (w6.alloc (.cells #[.slice (some ⟨g6, 0, none⟩) (w.length + 1) c6] 22)).heap.size by simp] at ho8
                obtain ⟨g8, c8, hv8, hst8⟩ := HS7.out.queue_grow HR7.out ho8 rfl hg8
                subst hv8
                have HS8 := Lib.hid hst8
                clear HS7 HR7 ho8 hg8 hst8
                go_wp2_with fail
                go_roundw
                case rel => exact ⟨x + 1, g8, 0, c8, vq ++ [_], by go_num, by omega, by rw [HT2.out, List.length_append]; rfl, by rw [HT2.out]; exact HS8⟩
                case measure => simp [intOf]; omega
            · have HCN := Lib.hid (show chk N w (x + 1) = chk N w x by rw [chk_none hwl, chk_none hwl])
              have HS := Lib.hid hst.out
              have hwl2 : ¬ ((w.length : Int) < (N : Int)) := by omega
              clear hst
              go_wp2_with fail
              go_roundw
              case rel => exact ⟨x + 1, gq, oq, cq, vq, by go_num, by omega, by rw [HCN.out], by rw [HCN.out]; exact HS⟩
              case measure => simp [intOf]; omega
          · obtain rfl : x = 3 := by omega
            have hcl := hst.out.queue.le
            obtain ⟨T, hT⟩ : ∃ T, T = Q ++ chk N w 3 := ⟨_, rfl⟩
            rw [← hT] at hst hcl hqlen HSTEP HMS ⊢
            have hcl2 : (w :: T).length = T.length + 1 := by simp
            rw [hcl2] at hcl hqlen ⊢
            by_cases hc1 : cq = 1
            · subst hc1
              have HS := Lib.hid hst.out.pop0
              clear hst hT
              go_wp2_with fail
              go_roundg (wts N T)
              case measure => exact HMS.out
              case rel => exact ⟨P ++ [w], T, gq, oq, 0, vq, vo3, p3, rfl, by rw [show T.length = 0 by omega], HSTEP, HS⟩
            · have HS := Lib.hid hst.out.pop
              clear hst hT
              go_wp2_with fail
              go_roundg (wts N T)
              case measure => exact HMS.out
              case rel => exact ⟨P ++ [w], T, gq, oq + 1, cq - 1, vq, vo3, p3, rfl, rfl, HSTEP, HS⟩
end Go.Proofs.YtfdjnofkoegbdaaDoor
