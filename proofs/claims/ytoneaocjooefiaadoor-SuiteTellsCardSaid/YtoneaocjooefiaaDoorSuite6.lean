/- suite.Least: look's walk. No conditions. -/
import Derived.Test.YtoneaocjooefiaaDoorSuite5
import Derived.IntWalk
namespace Go.Proofs.YtoneaocjooefiaaDoor
open Go.RowKit Go.Mine Go.Mine.Suite

theorem news_one (w : World) (k : Nat) (i : Int) (h : w.heap[k]? = some (.cells #[.int .i64 i] 3 (0, 0))) : ∀ j u, [Value.int .i64 i][j]? = some u → w.cell? ((⟨k, 0, none⟩ : Addr).add j) = some u :=
  World.news_of_block (cs := #[.int .i64 i]) h

set_option maxHeartbeats 4000000 in
set_option maxRecDepth 100000 in
theorem look_any (W : World) (ts : List Nat) (ao : Option Addr) (c : Nat) (hx : ∀ w, Below W.heap.size W w → IntsAt .u32 w ao (cast ts)) (h32 : ∀ t ∈ ts, t < 4294967296) (hl : ts.length ≤ 12) :
    ∀ (f k o : Nat) (tk : List Nat) (best : Option (List Nat)) (bv tv : Value) (w : World), ts.length - k ≤ f → k ≤ ts.length → o < 4294967296 → tk.length + (ts.length - k) ≤ 12 → LOwn W ts ao c best bv w → w.ownsRow (W.heap.size + 3) 3 1 tv tk.length ((cast tk).map (Value.int .i64)) → Apart tv bv →
      Calls Tryd.prog 23 #[.int .i64 k, .int .u32 o, tv, .pointer (some ⟨W.heap.size + 1, 0, none⟩), .pointer (some ⟨W.heap.size, 0, none⟩), .pointer (some ⟨W.heap.size + 1 + 1, 0, none⟩)] w
        fun e w' => e = .returned (.tuple #[]) ∧ LookPost W ts ao c (lookF ts f k o tk best) bv tv tk w w' := by
  obtain ⟨i0, hi0, hz0, hz1, hz2⟩ := info_parts info3
  have HX := Lib.hid hx
  have H32 := Lib.hid h32
  clear hx h32
  have q22 : ∀ (w : World) (a : Option Addr) (n c n' c' : Nat), (binOp .eql 24 (.slice a n c) (.slice none n' c')).run Tryd.prog w = .ok (.bool a.isNone) w := fun w a n c n' c' => Lib.run_eql_slice_nil w _ _ a n c n' c' Tryd.underlying24
  intro f
  induction f using Nat.strongRecOn with
  | ind f ih =>
  intro k o tk best bv tv w hf hk ho htk hown htv hap
  have IH := Lib.hid ih
  clear ih
  have hcl := cast_len tk
  obtain ⟨ba, bn, bc, hbv, hr1, hr2, hs1, hs2⟩ := best_shape tk hown.is
  subst hbv
  obtain ⟨tao, tc, rfl⟩ := owns_shape htv
  have c1 := hown.bestc
  have hsz := hown.size
  have htk12 : tk.length ≤ 12 := by omega
  by_cases h0 : o = 0
  · subst h0
    rw [lookF_zero]
    cases hs : shorter tk best with
    | true =>
      rw [if_pos rfl]
      have hcs := hs1 hs
      have HS := Lib.hid (show ∀ (g cap : Nat) (w' : World), (w.alloc (.cells #[] 3)).grownBy w' (some w.heap.size) → w'.ownsRow (W.heap.size + 3) 3 1 (.slice (some ⟨g, 0, none⟩) tk.length cap) tk.length ((cast tk).map (Value.int .i64)) → (g = w.heap.size ∨ g = w.heap.size + 1) → _ from fun g cap w' hg ho hat => look_store hown htv hg ho hat)
      have htn : tao = none → tk.length = 0 := fun e => by
        subst e
        rcases htv.2 with ⟨_, h⟩ | ⟨_, _, _, h, _⟩
        · exact h
        · cases h
      have hnews := Lib.hid (show IntsAt .i64 (w.alloc (.cells #[] 3)) tao (cast tk) from (IntsAt.of_owns htv).below (Nat.le_refl _) ((Below.refl _ _).alloc (Nat.le_refl _) _))
      clear hr1 hr2 hs1 hs2 hs hown htv hap
      rcases hcs with hn | ⟨hn, hlb⟩
      case' inr => have hd : decide (tk.length < bn) = true := by rw [decide_eq_true_iff]; exact hlb
      all_goals
        go_enter Tryd.func23, Tryd.ntmps23
        go_wp2_with (at_builtin; refine wpList_append_any _ rfl _ _ 24 rfl (W.heap.size + 3) 3 i0 (.int .i64 0) 1 8 Tryd.underlying24 hi0 hz0 hz1 hz2 rfl (by decide) _ 0 _ [] rfl ?_ tao tk.length tc ((cast tk).map (Value.int .i64)) rfl ?_ ?_ ?_ (ints1 _ _) ?_ ?_ ?_ _ rfl ?_)
        · exact owns_empty hsz (heap_alloc_at _ _ rfl)
        · simp [hcl]
        · exact htn
        · exact hnews.out.news
        · unfold maxLen; omega
        · omega
        · simp; omega
        intro g cap w' hown' hgrow hat hlt
        try simp only [Nat.zero_add] at hown'
        try simp only [List.nil_append] at hown'
        obtain ⟨c1', f1', hpost⟩ := HS.out g cap w' hgrow hown' (by simpa using hat)
        have HP := Lib.hid hpost
        clear hpost hown' hgrow hat c1
        try simp only [Nat.zero_add]
        go_wp2_with fail
        go_end0
        exact ⟨rfl, HP.out⟩
    | false =>
      rw [if_neg (by simp)]
      obtain ⟨hn, hlb⟩ := hs2 hs
      have hd : decide (tk.length < bn) = false := by rw [decide_eq_false_iff_not]; exact hlb
      have HP := Lib.hid (LookPost.refl hown htv)
      clear hr1 hr2 hs1 hs2 hs hown htv hap
      go_enter Tryd.func23, Tryd.ntmps23
      go_wp2_with fail
      go_end0
      exact ⟨rfl, HP.out⟩
  · have hne : ((o : Int) == 0) = false := by rw [beq_eq_false_iff_ne]; omega
    cases hr : room tk best with
    | true =>
      rw [lookF_eq hf h0 hr]
      have hcs := hr1 hr
      have HP0 := Lib.hid (LookPost.refl hown htv)
      have HAP := Lib.hid hap
      have HTV := Lib.hid htv
      clear hr1 hr2 hs1 hs2 hr hown htv hap
      rcases hcs with hn | ⟨hn, hlb⟩
      case' inr => have hd2 : decide ((tk.length : Int) + 1 < (bn : Int)) = true := by rw [decide_eq_true_iff]; omega
      all_goals
        go_enter Tryd.func23, Tryd.ntmps23
        go_wp2_with fail
        clear c1
        go_loopw [9] (fun iv wr => ∃ i m : Nat, iv = .int .i64 i ∧ i ≤ ts.length ∧ RowKit.Hid (i = k + m) ∧ RowKit.Hid (LookPost W ts ao c (foldF ts (f - 1) k o tk best m) (.slice ba bn bc) (.slice tao tk.length tc) tk w wr)) (fun iv _ => ts.length - (intOf iv).toNat)
        case atStart => exact ⟨k, 0, rfl, hk, Lib.hid rfl, HP0⟩
        case round =>
          obtain ⟨i, m, rfl, hi, him, hp⟩ := hrel
          obtain ⟨bv', hL, ht', hfr, hbb⟩ := hp.out
          have ct := hL.tests
          have cl := hL.look
          have hsr := hL.size
          by_cases hlt : i < ts.length
          · obtain ⟨b0, o0, hao, hc⟩ := HX.out wr hL.below i (by rw [cast_len]; exact hlt)
            rw [cast_get] at hc
            have ht32 := get_lt H32.out i
            have hand := u32_andNot_nat o (ts.getD i 0) ho ht32
            rw [show (o &&& (4294967295 - ts.getD i 0)) = dif o (ts.getD i 0) from rfl] at hand
            have hd32 := dif_lt (b := ts.getD i 0) ho
            have hf0 : f - 1 < f := by have := him.out; omega
            have hf1 : ts.length - (i + 1) ≤ f - 1 := by have := him.out; omega
            have HSU := Lib.hid (foldF_succ ts (f - 1) k o tk best m)
            rw [← him.out] at HSU
            obtain ⟨R, hR⟩ : ∃ R, R = foldF ts (f - 1) k o tk best m := ⟨_, rfl⟩
            rw [← hR] at HSU hL
            obtain ⟨o', ho'⟩ : ∃ o', o' = dif o (ts.getD i 0) := ⟨_, rfl⟩
            rw [← ho'] at hand hd32 HSU
            obtain ⟨t, ht⟩ : ∃ t, t = ts.getD i 0 := ⟨_, rfl⟩
            rw [← ht] at hc hand
            have hap' : Apart (.slice tao tk.length tc) bv' := by
              intro g hg hb
              rcases hbb with e | e
              · rw [e] at hb; exact HAP.out g hg hb
              · have := e g hb; have := (HTV.out.lt g hg).2; omega
            have HIH := Lib.hid (show ∀ (g cap : Nat) (w7 : World), LOwn W ts ao c R bv' w7 → w7.ownsRow (W.heap.size + 3) 3 1 (.slice (some ⟨g, 0, none⟩) (tk.length + 1) cap) (tk.length + 1) ((cast (tk ++ [i])).map (Value.int .i64)) → Apart (.slice (some ⟨g, 0, none⟩) (tk.length + 1) cap) bv' →
                Calls Tryd.prog 23 #[.int .i64 ((i : Int) + 1), .int .u32 o', .slice (some ⟨g, 0, none⟩) (tk.length + 1) cap, .pointer (some ⟨W.heap.size + 1, 0, none⟩), .pointer (some ⟨W.heap.size, 0, none⟩), .pointer (some ⟨W.heap.size + 1 + 1, 0, none⟩)] w7
                  (fun e w' => e = .returned (.tuple #[]) ∧ LookPost W ts ao c (lookF ts (f - 1) (i + 1) o' (tk ++ [i]) R) bv' (.slice (some ⟨g, 0, none⟩) (tk.length + 1) cap) (tk ++ [i]) w7 w') from fun g cap w7 g1 g2 g3 => by
              have hl1 : (tk ++ [i]).length = tk.length + 1 := by simp
              have := IH.out (f - 1) hf0 (i + 1) o' (tk ++ [i]) R bv' (.slice (some ⟨g, 0, none⟩) (tk.length + 1) cap) w7 hf1 (by omega) hd32 (by rw [hl1]; have := him.out; omega) g1 (by rw [hl1]; exact g2) g3
              exact this)
            have HIHw := Lib.hid (show ∀ (g cap : Nat) (w7 : World), LOwn W ts ao c R bv' w7 → w7.ownsRow (W.heap.size + 3) 3 1 (.slice (some ⟨g, 0, none⟩) (tk.length + 1) cap) (tk.length + 1) ((cast (tk ++ [i])).map (Value.int .i64)) → Apart (.slice (some ⟨g, 0, none⟩) (tk.length + 1) cap) bv' →
                Calls Tryd.prog 23 #[.int .i64 (IntKind.i64.wrap ((i : Int) + 1)), .int .u32 o', .slice (some ⟨g, 0, none⟩) (tk.length + 1) cap, .pointer (some ⟨W.heap.size + 1, 0, none⟩), .pointer (some ⟨W.heap.size, 0, none⟩), .pointer (some ⟨W.heap.size + 1 + 1, 0, none⟩)] w7
                  (fun e w' => e = .returned (.tuple #[]) ∧ LookPost W ts ao c (lookF ts (f - 1) (i + 1) o' (tk ++ [i]) R) bv' (.slice (some ⟨g, 0, none⟩) (tk.length + 1) cap) (tk ++ [i]) w7 w') from fun g cap w7 g1 g2 g3 => by
              rw [IntWalk.i64_in _ (by omega)]
              exact HIH.out g cap w7 g1 g2 g3)
            have HST := Lib.hid (fun (r' : Option (List Nat)) (w1 w7 w9 : World) (g cap : Nat) (hg : w1.grownBy w7 (Value.slice tao tk.length tc).ownBlock) (hw1 : w1.heap = wr.heap.push (.cells #[.int .i64 i] 3 (0, 0))) (hos : w1.os = wr.os ∧ w1.tape = wr.tape ∧ w1.output = wr.output) h7 h7t hat hgl => look_step (r' := r') (w1 := w1) (w7 := w7) (w9 := w9) (g := g) (cap := cap) (i := i) hL ht' hap' hw1 hos h7 h7t hg hat hgl)
            have HC7 := Lib.hid (show ∀ w7 r bv7, LOwn W ts ao c r bv7 w7 → w7.cell? ⟨b0, o0 + i, none⟩ = some (.int .u32 t) from fun w7 r bv7 h7 => by
              obtain ⟨b1, o1, e1, h1⟩ := HX.out w7 h7.below i (by rw [cast_len]; exact hlt)
              rw [hao] at e1
              cases e1
              rw [cast_get, ← ht] at h1
              exact h1)
            have HEC := Lib.hid (show (cast tk).map (Value.int .i64) ++ [.int .i64 i] = (cast (tk ++ [i])).map (Value.int .i64) by simp [cast])
            have HT' := Lib.hid ht'
            have HFR := Lib.hid hfr
            have HBB := Lib.hid hbb
            have HIM := Lib.hid (show i + 1 = k + (m + 1) by have := him.out; omega)
            have HAO := Lib.hid hao
            have ct' : wr.cell? ⟨W.heap.size, 0, none⟩ = some (.slice (some ⟨b0, o0, none⟩) ts.length c) := by rw [← hao]; exact ct
            clear ct hL ht' hfr hbb him hp hao hR ho' ht hf0 hf1 hap'
            go_wp2_with fail
            go_region_held3 (fun w' => w'.cell? ⟨W.heap.size, 0, none⟩ = some (.slice (some ⟨b0, o0, none⟩) ts.length c) ∧ w'.cell? ⟨W.heap.size + 1 + 1, 0, none⟩ = some (.func (.func 23) #[] #[.pointer (some ⟨W.heap.size + 1, 0, none⟩), .pointer (some ⟨W.heap.size, 0, none⟩), .pointer (some ⟨W.heap.size + 1 + 1, 0, none⟩)]) ∧ w'.cell? ⟨b0, o0 + i, none⟩ = some (.int .u32 t))
              (first
                | (go_keep; done)
                | (try go_split_ands
                   refine ⟨?_, ?_, ?_⟩
                   · first | assumption | (go_keep; done)
                   · first | assumption | (go_keep; done)
                   · first | assumption | (go_keep; done)))
              (first
                | ((refine step_push_keep _ rfl (.tmp 52) (.tmp 54) 24 rfl (W.heap.size + 3) 3 i0 (.int .i64 0) 1 8 Tryd.underlying24 hi0 hz0 hz1 hz2 rfl (by decide) _ tk.length ((cast tk).map (Value.int .i64)) rfl ?_ ⟨wr.heap.size, 0, none⟩ 1 [.int .i64 i] rfl rfl ?_ (one1 _ _) ?_ ?_ ?_ (wr.heap.size + 1) ?_ ?_)
                   · repeat' (first | exact HT'.out | refine World.ownsRow.drew ?_ | refine World.ownsRow.alloc ?_ _)
                   · refine news_one _ _ _ ?_
                     repeat' (first | refine heap_drew_at ?_ | exact heap_alloc_at _ _ (by simp) | refine heap_alloc_keep _ ?_)
                   · unfold maxLen; omega
                   · omega
                   · first | omega | (simp; omega)
                   · simp
                   intro g7 cap7 w7 hown7 hkeep7 hgrow7 hat7 hlt7
                   rw [HEC.out] at hown7
                   obtain ⟨hL7, hap7, hback⟩ := HST.out (lookF ts (f - 1) (i + 1) o' (tk ++ [i]) R) _ w7 w7 g7 cap7 hgrow7 rfl ⟨rfl, rfl, rfl⟩ hown7 hkeep7 hat7 hlt7
                   have k1 : w7.cell? ⟨W.heap.size, 0, none⟩ = some (.slice (some ⟨b0, o0, none⟩) ts.length c) := by rw [← HAO.out]; exact hL7.tests
                   have k2 := hL7.look
                   have k3 := HC7.out w7 _ _ hL7)
                | (go_at_call 23
                   first
                     | (with_reducible refine (HIHw.out _ _ _ hL7 hown7 hap7).mono ?_)
                     | (with_reducible refine (HIH.out _ _ _ hL7 hown7 hap7).mono ?_)
                   rintro e w9 ⟨rfl, hp9⟩
                   have HP9 := Lib.hid ((HST.out (lookF ts (f - 1) (i + 1) o' (tk ++ [i]) R) _ w7 w9 g7 cap7 hgrow7 rfl ⟨rfl, rfl, rfl⟩ hown7 hkeep7 hat7 hlt7).2.2 hp9)
                   obtain ⟨bv9, hL9, _, _, _⟩ := HP9.out
                   have k1' : w9.cell? ⟨W.heap.size, 0, none⟩ = some (.slice (some ⟨b0, o0, none⟩) ts.length c) := by rw [← HAO.out]; exact hL9.tests
                   have k2' := hL9.look
                   have k3' := HC7.out w9 _ _ hL9))
            all_goals
              have HN := Lib.hid (show LookPost W ts ao c (foldF ts (f - 1) k o tk best (m + 1)) (.slice ba bn bc) (.slice tao tk.length tc) tk w w9 from by
                obtain ⟨bv9, g1, g2, g3, g4⟩ := HP9.out
                refine ⟨bv9, by rw [HSU.out]; exact g1, g2, HFR.out.trans g3, ?_⟩
                rcases g4 with e | g4
                · rw [e]; exact HBB.out
                · exact .inr fun g hg => Nat.le_trans HFR.out.size (g4 g hg))
              clear hown7 hkeep7 hgrow7 hat7 hL7 hap7 hback k1 k2 k3 k1' k2' k3' hL9 hp9 ct' cl hc hand
              go_wp2_with fail
              go_roundw
            all_goals first
              | exact ⟨i + 1, m + 1, by go_num, by omega, HIM, HN⟩
              | (simp [intOf]; omega)
          · have hmk : m = ts.length - k := by have := him.out; omega
            have HN := Lib.hid hp.out
            rw [hmk] at HN
            have hie : i = ts.length := by omega
            subst hie
            clear hp him hL ht' hfr hbb hmk hi
            go_wp2_with fail
            go_end0
            exact ⟨rfl, HN.out⟩
    | false =>
      rw [lookF_shut h0 hr]
      obtain ⟨hn, hlb⟩ := hr2 hr
      have hd : decide (tk.length + 1 < bn) = false := by rw [decide_eq_false_iff_not]; exact hlb
      have HP := Lib.hid (LookPost.refl hown htv)
      clear hr1 hr2 hs1 hs2 hr hown htv hap
      go_enter Tryd.func23, Tryd.ntmps23
      go_wp2_with fail
      go_end0
      exact ⟨rfl, HP.out⟩
end Go.Proofs.YtoneaocjooefiaaDoor
