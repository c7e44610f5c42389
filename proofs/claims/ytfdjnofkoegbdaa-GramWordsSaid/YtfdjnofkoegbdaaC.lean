/- GramWords' walk. -/
import Derived.Test.YtfdjnofkoegbdaaGram4
import Derived.Test.YtfdjnofkoegbdaaGram5
import Derived.Test.YtfdjnofkoegbdaaSInts
import Derived.Test.YtfdjnofkoegbdaaShorter
namespace Go.Proofs.Ytfdjnofkoegbdaa
open Go.RowKit Go.Mine Go.Mine.Gram

theorem told_mem {g : List (List (List Int))} {P : List (List Int)} {w : List Int} : w ∈ told g P ↔ w ∈ P ∧ Word g w := by simp [told]
theorem told_rise {g : List (List (List Int))} {P : List (List Int)} (h : P.Pairwise Less) : (told g P).Pairwise Less := h.filter _
theorem take_mem {L : List (List Int)} {k : Nat} (hk : k < L.length) (w : List Int) : w ∈ L.take (k + 1) ↔ w ∈ L.take k ∨ L.getD k [] = w := by
  rw [List.take_succ_eq_append_getElem hk, List.mem_append, List.mem_singleton]
  simp only [List.getD, List.getElem?_eq_getElem hk, Option.getD_some]
  exact ⟨fun h => h.elim .inl (fun h => .inr h.symm), fun h => h.elim .inl (fun h => .inr h.symm)⟩

set_option maxHeartbeats 1000000 in
set_option maxRecDepth 100000 in
theorem gramWords_walk (g : List (List (List Int))) (n : Int) (ws : List Int) (go' wo : Option Addr) (gc wc : Nat) (W : World) (hx : GridAt W go' g) (hl : g.length ≤ maxLen) (hw : IntsAt .i64 W wo ws) (hwl : ws.length ≤ maxLen) :
    Calls Try.prog 4 #[.slice go' g.length gc, .int .i64 n, .slice wo ws.length wc] W fun e w' => e = .returned (.bool true) ∧ Below W.heap.size W w' := by
  have HX := Lib.hid (show ∀ w, Below W.heap.size W w → GridAt w go' g ∧ IntsAt .i64 w wo ws from fun w hb => ⟨hx.below (Nat.le_refl _) hb, hw.below (Nat.le_refl _) hb⟩)
  clear hx hw
  go_enter Try.func4, Try.ntmps4
  go_wp2_with fail
  refine (grammar_true W).mono ?_
  rintro e w1 ⟨rfl, hb1⟩
  have HWD := Lib.hid (words_any g n go' gc w1 (HX.out w1 hb1).1 hl)
  have HB1 := Lib.hid hb1
  clear hb1
  go_wp2_with fail
  refine HWD.out.mono ?_
  clear HWD
  rintro e w2 ⟨hp, hb2⟩
  have HB2 := Lib.hid (HB1.out.trans (hb2.mono HB1.out.size))
  clear hb2 HB1
  rcases hp with ⟨_, rfl⟩ | ⟨_, _, rfl⟩ | ⟨hok, N, rfl, hN4, P, ao, c, hP, rfl, hrows, hpl⟩
  · go_wp2_with fail
    go_ret
    exact ⟨rfl, HB2.out⟩
  · go_wp2_with fail
    go_ret
    exact ⟨rfl, HB2.out⟩
  have HOK := Lib.hid hok
  have HRISE := Lib.hid (told_rise (g := g) hP.1)
  have HMEM := Lib.hid (show ∀ w, w ∈ told g P ↔ (w.length ≤ N ∧ ∀ x ∈ w, 0 ≤ x ∧ x ≤ 2) ∧ Word g w from fun w => told_mem.trans (and_congr_left fun _ => hP.2 w))
  have htl : (told g P).length ≤ 121 := Nat.le_trans (List.length_filter_le _ _) hpl
  obtain ⟨L, hL⟩ : ∃ L, L = told g P := ⟨_, rfl⟩
  rw [← hL] at HRISE HMEM htl hrows ⊢
  have HR := Lib.hid hrows
  clear hok hP hL hrows
  have hwl2 := hwl
  unfold maxLen at hwl2
  go_wp2_with fail
  go_loopw [10, 11] (fun tv iv wr => ∃ k : Nat, iv = .int .i64 k ∧ k ≤ L.length ∧ tv = .bool (decide (ws ∈ L.take k)) ∧ Below w2.heap.size w2 wr) (fun _ iv _ => L.length - (intOf iv).toNat)
  case atStart => exact ⟨0, rfl, by omega, by simp, Below.refl _ _⟩
  case round =>
    obtain ⟨k, rfl, hk, rfl, hq⟩ := hrel
    have HQ := Lib.hid hq
    have hbw := HB2.out.trans (hq.mono HB2.out.size)
    have HB := Lib.hid hbw
    by_cases hkl : k < L.length
    · obtain ⟨b, o, ro, rc, rfl, hrl, _, _, hri, hcell⟩ := HR.out.get hkl
      have hmem : L.getD k [] ∈ L := by simp [hkl]
      obtain ⟨⟨hlen, _⟩, hword⟩ := (HMEM.out _).1 hmem
      have hc := hcell wr hq
      have HTM := Lib.hid (take_mem hkl ws)
      have HCELL := Lib.hid hcell
      have HRI := Lib.hid (show ∀ w, Below w2.heap.size w2 w → IntsAt .i64 w ro (L.getD k []) from fun w hb => hri.below (Nat.le_refl _) hb)
      have HPREV := Lib.hid (show 0 < k → Less (L.getD (k - 1) []) (L.getD k []) from fun h0 => by
        have := List.pairwise_iff_getElem.1 HRISE.out (k - 1) k (by omega) hkl (by omega)
        simp only [List.getD, List.getElem?_eq_getElem hkl, List.getElem?_eq_getElem (show k - 1 < L.length by omega), Option.getD_some]
        exact this)
      obtain ⟨u, hu⟩ : ∃ u, u = L.getD k [] := ⟨_, rfl⟩
      rw [← hu] at hc HTM HRI hlen hword hrl HCELL HPREV
      have HWORD := Lib.hid hword
      have HH := Lib.hid (has_any g u go' ro gc rc wr (HX.out wr hbw).1 hl (HRI.out wr hq) (by unfold maxLen; omega))
      clear hq hbw hri hcell hu hmem hword
      go_wp2_with fail
      refine HH.out.mono ?_
      clear HH hc
      rintro e w3 ⟨hp, hb3⟩
      have hq3 := HQ.out.trans (hb3.mono HQ.out.size)
      have HQ3 := Lib.hid hq3
      clear hb3 HQ
      rcases hp with ⟨h, _⟩ | ⟨_, h, _⟩ | ⟨_, _, b', rfl, hb'⟩
      · exact absurd HOK.out h
      · omega
      obtain rfl := hb'.2 HWORD.out
      clear hb'
      have hc3 := HCELL.out w3 hq3
      have HB3 := Lib.hid (HB2.out.trans (hq3.mono HB2.out.size))
      have hd1 : decide ((N : Int) < (u.length : Int)) = false := by rw [decide_eq_false_iff_not]; omega
      have hd2 : decide (N < u.length) = false := by rw [decide_eq_false_iff_not]; omega
      have HIN := Lib.hid (fun q => Ints_any u ws ro wo rc wc (w3.drewN q) ((HRI.out w3 hq3).drewN q) (HX.out w3 HB3.out).2 (by unfold maxLen; omega))
      obtain ⟨z, hz⟩ : ∃ z : Bool, z = decide (ws ∈ L.take k) := ⟨_, rfl⟩
      have HZ := Lib.hid (show decide (ws ∈ L.take (k + 1)) = (z || decide (u = ws)) by
        rw [hz, ← Bool.decide_or]
        exact decide_eq_decide.2 HTM.out)
      rw [← hz]
      clear hz
      cases k with
      | zero =>
        have hd0 : decide ((0 : Int) < ((0 : Nat) : Int)) = false := rfl
        rw [Nat.add_zero] at hc3
        go_wp2_with fail
        go_quiet (fail)
        go_wp2_with fail
        refine (HIN.out _).mono ?_
        rintro e w5 ⟨rfl, m, rfl⟩
        have HQ5 := Lib.hid (below_drewN HQ3.out (nq + m))
        obtain ⟨y, hy⟩ : ∃ y : Bool, y = decide (u = ws) := ⟨_, rfl⟩
        rw [← hy] at HZ ⊢
        clear hy HIN
        cases z <;> cases y
        all_goals
          go_wp2_with fail
          go_roundw
        all_goals first
          | exact ⟨1, by first | rfl | go_num, by omega, by rw [show decide (ws ∈ List.take 1 L) = _ from HZ.out]; rfl, HQ5.out⟩
          | (simp [intOf]; omega)
      | succ j =>
        have hd0 : decide ((0 : Int) < ((j + 1 : Nat) : Int)) = true := by rw [decide_eq_true_iff]; omega
        obtain ⟨b2, o2, ro2, rc2, hroe, hrl2, _, _, hri2, hcell2⟩ := HR.out.get (j := j) (by omega)
        cases hroe
        have hc4 := hcell2 w3 hq3
        have hprev := HPREV.out (by omega)
        rw [show j + 1 - 1 = j by omega] at hprev
        have hvl : (L.getD j []).length ≤ N := ((HMEM.out _).1 (by simp [show j < L.length by omega])).1.1
        have HRI2 := Lib.hid (hri2.below (Nat.le_refl _) hq3)
        obtain ⟨v, hv⟩ : ∃ v, v = L.getD j [] := ⟨_, rfl⟩
        rw [← hv] at hc4 hprev hvl HRI2
        have HS := Lib.hid (fun q => (show Calls Try.prog 9 #[.slice ro2 v.length rc2, .slice ro u.length rc] (w3.drewN q) (fun e w' => e = .returned (.bool true) ∧ ∃ m, w' = (w3.drewN q).drewN m) from by
          have := shorter_any v u ro2 ro rc2 rc (w3.drewN q) (HRI2.out.drewN q) ((HRI.out w3 hq3).drewN q) (by unfold maxLen; omega) (by unfold maxLen; omega)
          rw [shorterB_iff.2 hprev] at this
          exact this))
        clear hv hprev hri2 hcell2 HRI2
        go_wp2_with fail
        go_quiet (first | (go_at_call 9; (with_reducible exact Calls.quiet_of (HS.out _))))
        go_wp2_with fail
        refine (HIN.out _).mono ?_
        rintro e w5 ⟨rfl, m, rfl⟩
        have HQ5 := Lib.hid (below_drewN HQ3.out (nq + m))
        obtain ⟨y, hy⟩ : ∃ y : Bool, y = decide (u = ws) := ⟨_, rfl⟩
        rw [← hy] at HZ ⊢
        clear hy HIN
        cases z <;> cases y
        all_goals
          go_wp2_with fail
          go_roundw
        all_goals first
          | exact ⟨j + 1 + 1, by go_num, by omega, by rw [HZ.out]; rfl, HQ5.out⟩
          | (simp [intOf]; omega)
    · have hke : L.take k = L := List.take_of_length_le (by omega)
      rw [hke]
      have HH := Lib.hid (has_any g ws go' wo gc wc wr (HX.out wr hbw).1 hl (HX.out wr hbw).2 hwl)
      clear hq hbw
      go_wp2_with fail
      refine HH.out.mono ?_
      clear HH
      rintro e w3 ⟨hp, hb3⟩
      have HB3 := Lib.hid (HB.out.trans (hb3.mono HB.out.size))
      clear hb3
      rcases hp with ⟨h, _⟩ | ⟨_, h8, rfl⟩ | ⟨_, h8, b', rfl, hb'⟩
      · exact absurd HOK.out h
      · have hd1 : decide (N < ws.length) = true := by rw [decide_eq_true_iff]; omega
        have hd2 : decide ((N : Int) < (ws.length : Int)) = true := by rw [decide_eq_true_iff]; omega
        go_wp2_with fail
        all_goals go_ret
        all_goals exact ⟨rfl, HB3.out⟩
      · by_cases hlN : N < ws.length
        · have hd1 : decide (N < ws.length) = true := by rw [decide_eq_true_iff]; omega
          have hd2 : decide ((N : Int) < (ws.length : Int)) = true := by rw [decide_eq_true_iff]; omega
          clear hb'
          go_wp2_with fail
          all_goals go_ret
          all_goals exact ⟨rfl, HB3.out⟩
        · have hbe : b' = decide (ws ∈ L) := by
            rw [Bool.eq_iff_iff, hb', decide_eq_true_iff, HMEM.out]
            exact ⟨fun h => ⟨⟨by omega, h.letters HOK.out⟩, h⟩, fun h => h.2⟩
          subst hbe
          have hd1 : decide (N < ws.length) = false := by rw [decide_eq_false_iff_not]; omega
          have hd2 : decide ((N : Int) < (ws.length : Int)) = false := by rw [decide_eq_false_iff_not]; omega
          obtain ⟨z, hz⟩ : ∃ z : Bool, z = decide (ws ∈ L) := ⟨_, rfl⟩
          rw [← hz]
          clear hb' hz
          cases z
          all_goals
            go_wp2_with fail
            all_goals go_ret
            all_goals exact ⟨rfl, HB3.out⟩
end Go.Proofs.Ytfdjnofkoegbdaa
