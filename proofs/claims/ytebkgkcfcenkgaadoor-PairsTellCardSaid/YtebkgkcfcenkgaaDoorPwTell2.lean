/- PairsTell's walk. CONDITION: errors.errorType holds what start-up lays there. -/
import Derived.Test.YtebkgkcfcenkgaaDoorPwTell1
import Derived.Test.YtebkgkcfcenkgaaDoorErrIs
namespace Go.Proofs.YtebkgkcfcenkgaaDoor
open Go.RowKit Go.Mine Go.Mine.Pw

theorem eqself (c : Int) : (c == c) = true := by simp
theorem okL22 : okL [2, 2] := ⟨by decide, by decide⟩
/-- What Rows tells at [2, 2]. -/
theorem fact_any (W : World) (b : Nat) (hc0 : W.cell? ⟨b, 0, none⟩ = some (.int .i64 2)) (hc1 : W.cell? ⟨b, 1, none⟩ = some (.int .i64 2)) :
    Calls Tryd.prog 11 #[.slice (some ⟨b, 0, none⟩) 2 2] W fun e w' => (∃ ao cap, e = .returned (.tuple #[.slice ao 4 cap, .nilIface])) ∧ Below W.heap.size W w' := by
  have hx : IntsAt .i64 W (some ⟨b, 0, none⟩) [2, 2] := fun j hj => by
    have h : j = 0 ∨ j = 1 := by simp at hj; omega
    rcases h with rfl | rfl
    · exact ⟨b, 0, rfl, hc0⟩
    · exact ⟨b, 0, rfl, hc1⟩
  refine (Rows_any [2, 2] (some ⟨b, 0, none⟩) 2 W hx (by decide)).mono ?_
  rintro e w' ⟨⟨h, _⟩ | ⟨_, rows, ao, cap, rfl, _, hl, _⟩, hb⟩
  · exact absurd okL22 h
  · exact ⟨⟨ao, cap, by rw [hl.two]⟩, hb⟩
theorem pfault_ne (L : List Int) : (pfault L == 0) = false := by
  rw [beq_eq_false_iff_ne]
  unfold pfault
  split <;> decide
set_option maxHeartbeats 2000000 in
set_option maxRecDepth 100000 in
theorem pairsTell_bad (L : List Int) (rows : List (List Int)) (lo ro : Option Addr) (lc rc : Nat) (W : World) (hg : Laid W) (hx : IntsAt .i64 W lo L) (hl : L.length ≤ maxLen) (hr : RowsAt W ro rows) (hrl : rows.length ≤ maxLen) (hno : ¬ okL L) :
    Calls Tryd.prog 3 #[.slice lo L.length lc, .slice ro rows.length rc] W fun e w' => e = .returned (.bool true) ∧ Below W.heap.size W w' := by
  have HG := Lib.hid hg
  have HX := Lib.hid (fun (w : World) (h : Below W.heap.size W w) => And.intro (hx.below (Nat.le_refl _) h) (hr.below (Nat.le_refl _) h))
  have HL := Lib.hid (And.intro hl hrl)
  have HNO := Lib.hid hno
  have HLF := Lib.hid (levelFault_any L lo lc W hx hl)
  have HCK := Lib.hid (pwcheck_any L lo lc W hx hl)
  have hpn := pfault_ne L
  obtain ⟨pf, hpf⟩ : ∃ pf, pf = pfault L := ⟨_, rfl⟩
  rw [← hpf] at hpn HCK
  have HPF := Lib.hid hpf
  unfold maxLen at hl hrl
  clear hg hx hr hno hpf
  go_enter Tryd.func3, Tryd.ntmps3
  go_wp2_with fail
  go_fit HLF.out
  clear HLF
  rintro e w1 ⟨⟨c, rfl, hc⟩, rfl⟩
  obtain rfl : c = pf := by
    rcases hc with ⟨h, _⟩ | ⟨_, h⟩
    · exact absurd h HNO.out
    · rw [h, HPF.out]
  clear hc
  go_wp2_with fail
  go_fit HCK.out
  clear HCK
  rintro e w1 ⟨⟨h, _⟩ | ⟨_, rfl⟩, rfl⟩
  · exact absurd h HNO.out
  go_wp2_with fail
  refine (error_is _ _ c (Num.err c) W HG.out).mono ?_
  rintro e w2 ⟨rfl, hb2⟩
  rw [eqself]
  have HB2 := Lib.hid hb2
  clear hb2
  go_wp2_with fail
  go_loop [7, 8] (fun fv iv => fv = .int .i64 c ∧ iv = .int .i64 0) (fun _ _ => 0)
  case atStart => exact ⟨rfl, rfl⟩
  case round =>
    obtain ⟨rfl, rfl⟩ := hrel
    have HM := Lib.hid (Missing_any L rows lo ro lc rc w2 (HX.out w2 HB2.out).1 HL.out.1 (HX.out w2 HB2.out).2 HL.out.2)
    go_wp2_with fail
    go_fit HM.out
    clear HM
    rintro e w3 ⟨hp, hb3⟩
    have HB3 := Lib.hid (HB2.out.trans (hb3.mono HB2.out.size))
    rcases hp with ⟨_, rfl⟩ | ⟨h, _⟩ | ⟨h, _⟩
    rotate_left
    · exact absurd h HNO.out
    · exact absurd h HNO.out
    rw [← HPF.out]
    clear hb3
    go_wp2_with fail
    refine (error_is _ _ c (Num.err c) w3 (HG.out.below HB3.out)).mono ?_
    rintro e w4 ⟨rfl, hb4⟩
    rw [eqself]
    have HB4 := Lib.hid (HB3.out.trans (hb4.mono HB3.out.size))
    clear hb4
    have HFO := Lib.hid (fours_same [] none none 0 0 w4 (FoursAt.nil _ _) (FoursAt.nil _ _) (by simp) (by simp))
    go_wp2_with fail
    go_fit HFO.out
    clear HFO
    rintro e w5 ⟨rfl, hb5⟩
    have HB5 := Lib.hid (HB4.out.trans (hb5.mono HB4.out.size))
    clear hb5
    have HR := Lib.hid (Rows_any L lo lc w5 (HX.out w5 HB5.out).1 HL.out.1)
    go_wp2_with fail
    go_fit HR.out
    clear HR
    rintro e w6 ⟨hp, hb6⟩
    have HB6 := Lib.hid (HB5.out.trans (hb6.mono HB5.out.size))
    rcases hp with ⟨_, rfl⟩ | ⟨h, _⟩
    rotate_left
    · exact absurd h HNO.out
    rw [← HPF.out]
    clear hb6
    go_wp2_with fail
    refine (error_is _ _ c (Num.err c) w6 (HG.out.below HB6.out)).mono ?_
    rintro e w7 ⟨rfl, hb7⟩
    rw [eqself]
    have HB7 := Lib.hid (HB6.out.trans (hb7.mono HB6.out.size))
    clear hb7
    obtain ⟨wf, hwf⟩ : ∃ wf, wf = w7.alloc (.cells #[.int .i64 2, .int .i64 2] 3) := ⟨_, rfl⟩
    have hbf : Below W.heap.size W wf := by rw [hwf]; exact HB7.out.alloc HB7.out.size _
    have hnb : wf.heap[w7.heap.size]? = some (.cells #[.int .i64 2, .int .i64 2] 3 (0, 0)) := by rw [hwf]; exact heap_alloc_new _ _
    have HFA := Lib.hid (fact_any wf w7.heap.size (by rw [cell_of_row _ _ 0 _ _ _ hnb]; rfl) (by rw [cell_of_row _ _ 1 _ _ _ hnb]; rfl))
    have HBF := Lib.hid hbf
    clear hbf hnb
    go_wp2_with fail
    rw [← hwf]
    clear hwf
    go_fit HFA.out
    clear HFA
    rintro e w8 ⟨⟨af, cf, rfl⟩, hb8⟩
    have HB8 := Lib.hid (HBF.out.trans (hb8.mono HBF.out.size))
    clear hb8
    go_wp2_with fail
    go_ret
    exact ⟨rfl, HB8.out⟩

set_option maxHeartbeats 4000000 in
set_option maxRecDepth 100000 in
theorem pairsTell_good (L : List Int) (rows : List (List Int)) (lo ro : Option Addr) (lc rc : Nat) (W : World) (hg : Laid W) (hx : IntsAt .i64 W lo L) (hl : L.length ≤ maxLen) (hr : RowsAt W ro rows) (hrl : rows.length ≤ maxLen) (hok : okL L) :
    Calls Tryd.prog 3 #[.slice lo L.length lc, .slice ro rows.length rc] W fun e w' => e = .returned (.bool true) ∧ Below W.heap.size W w' := by
  have HG := Lib.hid hg
  have HX := Lib.hid (fun (w : World) (h : Below W.heap.size W w) => And.intro (hx.below (Nat.le_refl _) h) (hr.below (Nat.le_refl _) h))
  have HL := Lib.hid (And.intro hl hrl)
  have HOK := Lib.hid hok
  have HLF := Lib.hid (levelFault_any L lo lc W hx hl)
  have HCK := Lib.hid (pwcheck_any L lo lc W hx hl)
  unfold maxLen at hl hrl
  clear hg hx hr hok
  go_enter Tryd.func3, Tryd.ntmps3
  go_wp2_with fail
  go_fit HLF.out
  clear HLF
  rintro e w1 ⟨⟨c, rfl, hc⟩, rfl⟩
  obtain rfl : c = 0 := by
    rcases hc with ⟨_, h⟩ | ⟨h, _⟩
    · exact h
    · exact absurd HOK.out h
  clear hc
  go_wp2_with fail
  go_fit HCK.out
  clear HCK
  rintro e w1 ⟨⟨_, rfl⟩ | ⟨h, _⟩, rfl⟩
  rotate_left
  · exact absurd HOK.out h
  go_wp2_with fail
  refine (error_is _ _ 0 Num.nil W HG.out).mono ?_
  rintro e w2 ⟨rfl, hb2⟩
  rw [eqself]
  have HB2 := Lib.hid hb2
  clear hb2
  go_wp2_with fail
  go_loopw [7, 8] (fun fv iv wr => ∃ (f : Int) (i : Nat), fv = .int .i64 f ∧ iv = .int .i64 i ∧ i ≤ rows.length ∧ RowKit.Hid ((f = 0 ∧ ∀ j, j < i → okRow L (rows.getD j [])) ∨ (f = 3 ∧ ¬ okRows L rows)) ∧ RowKit.Hid (Below W.heap.size W wr)) (fun _ iv _ => rows.length - (intOf iv).toNat)
  case atStart => exact ⟨0, 0, rfl, rfl, by omega, Lib.hid (.inl ⟨rfl, fun j hj => by omega⟩), HB2⟩
  clear HB2
  case round =>
    obtain ⟨f, i, rfl, rfl, hi, hf, hb⟩ := hrel
    have HB2 := Lib.hid hb.out
    have HF := Lib.hid hf.out
    clear hf hb
    obtain ⟨w2, hw2⟩ : ∃ w2, w2 = wr := ⟨_, rfl⟩
    subst hw2
    by_cases hgo : f = 0 ∧ i < rows.length
    · obtain ⟨rfl, hir⟩ := hgo
      have HALL := Lib.hid (show ∀ j, j < i → okRow L (rows.getD j []) from by
        rcases HF.out with ⟨_, h⟩ | ⟨h, _⟩
        · exact h
        · cases h)
      obtain ⟨b, o, ao, cap, rfl, hc, hri, hrl2, _⟩ := (HX.out w2 HB2.out).2 i hir
      have hmem : rows.getD i [] ∈ rows := by simp [hir]
      obtain ⟨r, hre⟩ : ∃ r, r = rows.getD i [] := ⟨_, rfl⟩
      rw [← hre] at hc hri hrl2 hmem
      have HRE := Lib.hid hre
      have HMEM := Lib.hid hmem
      have HRF := Lib.hid (rowFault_any L r lo ao lc cap w2 (HX.out w2 HB2.out).1 HL.out.1 hri hrl2)
      clear hre hmem hri hrl2 HF
      go_wp2_with fail
      go_fit HRF.out
      clear HRF
      rintro e w3 ⟨⟨t, rfl, ht⟩, hb3⟩
      have HB3 := Lib.hid (HB2.out.trans (hb3.mono HB2.out.size))
      have HT := Lib.hid ht
      clear hb3 ht
      cases t with
      | true =>
        have HN := Lib.hid (show ¬ okRows L rows from fun h => HT.out.1 rfl (h r HMEM.out))
        go_wp2_with fail
        go_roundw
        case rel => exact ⟨3, i + 1, rfl, by go_num, by omega, Lib.hid (.inr ⟨rfl, HN.out⟩), HB3⟩
        case measure => simp [intOf]; omega
      | false =>
        have HJ := Lib.hid (show ∀ j, j < i + 1 → okRow L (rows.getD j []) from fun j hj => by
          by_cases e : j = i
          · rw [e, ← HRE.out]
            exact Classical.byContradiction fun h => by have := HT.out.2 h; cases this
          · exact HALL.out j (by omega))
        go_wp2_with fail
        go_roundw
        case rel => exact ⟨0, i + 1, rfl, by go_num, by omega, Lib.hid (.inl ⟨rfl, HJ.out⟩), HB3⟩
        case measure => simp [intOf]; omega
    have HM := Lib.hid (Missing_any L rows lo ro lc rc w2 (HX.out w2 HB2.out).1 HL.out.1 (HX.out w2 HB2.out).2 HL.out.2)
    have HEND : ∀ w, Below W.heap.size W w → RowKit.Hid (Below W.heap.size W w) := fun w h => Lib.hid h
    by_cases hf0 : f = 0
    · subst hf0
      have hie : i = rows.length := by
        rcases Nat.lt_or_ge i rows.length with h | h
        · exact absurd ⟨rfl, h⟩ hgo
        · omega
      subst hie
      have HRW := Lib.hid (show okRows L rows from fun r hr => by
        rcases HF.out with ⟨_, h⟩ | ⟨h, _⟩
        · obtain ⟨j, hj, rfl⟩ := List.mem_iff_getElem.1 hr
          have := h j hj
          simpa [hj] using this
        · cases h)
      have HMO := Lib.hid (missingOf_any L rows lo ro lc rc w2 (HX.out w2 HB2.out).1 HOK.out (HX.out w2 HB2.out).2 HL.out.2 (fun r hr => (HRW.out r hr).1))
      clear HF hgo HM HEND
      go_wp2_with fail
      go_fit HMO.out
      clear HMO
      rintro e w3 ⟨⟨a3, c3, rfl, hf3⟩, hb3⟩
      have HB3 := Lib.hid (HB2.out.trans (hb3.mono HB2.out.size))
      have HF3 := Lib.hid hf3
      have HM := Lib.hid (Missing_any L rows lo ro lc rc w3 (HX.out w3 HB3.out).1 HL.out.1 (HX.out w3 HB3.out).2 HL.out.2)
      clear hf3 hb3
      go_wp2_with fail
      go_fit HM.out
      clear HM
      rintro e w4 ⟨hp, hb4⟩
      have HB4 := Lib.hid (HB3.out.trans (hb4.mono HB3.out.size))
      have HF4 := Lib.hid (HF3.out.below (Nat.le_refl _) hb4)
      rcases hp with ⟨h, _⟩ | ⟨_, h, _⟩ | ⟨_, _, a4, c4, rfl, hf4⟩
      · exact absurd HOK.out h
      · exact absurd HRW.out h
      have HF44 := Lib.hid hf4
      clear hb4 hf4
      go_wp2_with fail
      refine (error_is _ _ 0 Num.nil w4 (HG.out.below HB4.out)).mono ?_
      rintro e w5 ⟨rfl, hb5⟩
      rw [eqself]
      have HB5 := Lib.hid (HB4.out.trans (hb5.mono HB4.out.size))
      have HFO := Lib.hid (fours_same (missP L rows) a4 a3 c4 c3 w5 (HF44.out.below (Nat.le_refl _) hb5) (HF4.out.below (Nat.le_refl _) hb5) (fun r hr => St_four L r (List.mem_filter.1 hr).1) (Nat.le_trans (missP_len HOK.out rows) (by decide)))
      clear hb5
      go_wp2_with fail
      go_fit HFO.out
      clear HFO
      rintro e w6 ⟨rfl, hb6⟩
      have HB6 := Lib.hid (HB5.out.trans (hb6.mono HB5.out.size))
      clear hb6
      have HR := Lib.hid (Rows_any L lo lc w6 (HX.out w6 HB6.out).1 HL.out.1)
      go_wp2_with fail
      go_fit HR.out
      clear HR
      rintro e w7 ⟨hp, hb7⟩
      have HB7 := Lib.hid (HB6.out.trans (hb7.mono HB6.out.size))
      rcases hp with ⟨h, _⟩ | ⟨_, rows7, a7, c7, rfl, _⟩
      · exact absurd HOK.out h
      clear hb7
      go_wp2_with fail
      refine (error_is _ _ 0 Num.nil w7 (HG.out.below HB7.out)).mono ?_
      rintro e w8 ⟨rfl, hb8⟩
      rw [eqself]
      have HB8 := Lib.hid (HB7.out.trans (hb8.mono HB7.out.size))
      clear hb8
      obtain ⟨wf, hwf⟩ : ∃ wf, wf = w8.alloc (.cells #[.int .i64 2, .int .i64 2] 3) := ⟨_, rfl⟩
      have hbf : Below W.heap.size W wf := by rw [hwf]; exact HB8.out.alloc HB8.out.size _
      have hnb : wf.heap[w8.heap.size]? = some (.cells #[.int .i64 2, .int .i64 2] 3 (0, 0)) := by rw [hwf]; exact heap_alloc_new _ _
      have HFA := Lib.hid (fact_any wf w8.heap.size (by rw [cell_of_row _ _ 0 _ _ _ hnb]; rfl) (by rw [cell_of_row _ _ 1 _ _ _ hnb]; rfl))
      have HBF := Lib.hid hbf
      clear hbf hnb
      go_wp2_with fail
      rw [← hwf]
      clear hwf
      go_fit HFA.out
      clear HFA
      rintro e w9 ⟨⟨af, cf, rfl⟩, hb9⟩
      have HB9 := Lib.hid (HBF.out.trans (hb9.mono HBF.out.size))
      clear hb9
      go_wp2_with fail
      go_ret
      exact ⟨rfl, HB9.out⟩
    · obtain ⟨rfl, hnr⟩ : f = 3 ∧ ¬ okRows L rows := by
        rcases HF.out with ⟨h, _⟩ | h
        · exact absurd h hf0
        · exact h
      have HNR := Lib.hid hnr
      clear HF hgo hf0 hnr HEND
      go_wp2_with fail
      go_fit HM.out
      clear HM
      rintro e w4 ⟨hp, hb4⟩
      have HB4 := Lib.hid (HB2.out.trans (hb4.mono HB2.out.size))
      rcases hp with ⟨h, _⟩ | ⟨_, _, rfl⟩ | ⟨_, h, _⟩
      · exact absurd HOK.out h
      rotate_left
      · exact absurd h HNR.out
      clear hb4
      go_wp2_with fail
      refine (error_is _ _ 3 (Num.err 3) w4 (HG.out.below HB4.out)).mono ?_
      rintro e w5 ⟨rfl, hb5⟩
      rw [eqself]
      have HB5 := Lib.hid (HB4.out.trans (hb5.mono HB4.out.size))
      clear hb5
      have HFO := Lib.hid (fours_same [] none none 0 0 w5 (FoursAt.nil _ _) (FoursAt.nil _ _) (by simp) (by simp))
      go_wp2_with fail
      go_fit HFO.out
      clear HFO
      rintro e w6 ⟨rfl, hb6⟩
      have HB6 := Lib.hid (HB5.out.trans (hb6.mono HB5.out.size))
      clear hb6
      have HR := Lib.hid (Rows_any L lo lc w6 (HX.out w6 HB6.out).1 HL.out.1)
      go_wp2_with fail
      go_fit HR.out
      clear HR
      rintro e w7 ⟨hp, hb7⟩
      have HB7 := Lib.hid (HB6.out.trans (hb7.mono HB6.out.size))
      rcases hp with ⟨h, _⟩ | ⟨_, rows7, a7, c7, rfl, _⟩
      · exact absurd HOK.out h
      clear hb7
      go_wp2_with fail
      refine (error_is _ _ 0 Num.nil w7 (HG.out.below HB7.out)).mono ?_
      rintro e w8 ⟨rfl, hb8⟩
      rw [eqself]
      have HB8 := Lib.hid (HB7.out.trans (hb8.mono HB7.out.size))
      clear hb8
      obtain ⟨wf, hwf⟩ : ∃ wf, wf = w8.alloc (.cells #[.int .i64 2, .int .i64 2] 3) := ⟨_, rfl⟩
      have hbf : Below W.heap.size W wf := by rw [hwf]; exact HB8.out.alloc HB8.out.size _
      have hnb : wf.heap[w8.heap.size]? = some (.cells #[.int .i64 2, .int .i64 2] 3 (0, 0)) := by rw [hwf]; exact heap_alloc_new _ _
      have HFA := Lib.hid (fact_any wf w8.heap.size (by rw [cell_of_row _ _ 0 _ _ _ hnb]; rfl) (by rw [cell_of_row _ _ 1 _ _ _ hnb]; rfl))
      have HBF := Lib.hid hbf
      clear hbf hnb
      go_wp2_with fail
      rw [← hwf]
      clear hwf
      go_fit HFA.out
      clear HFA
      rintro e w9 ⟨⟨af, cf, rfl⟩, hb9⟩
      have HB9 := Lib.hid (HBF.out.trans (hb9.mono HBF.out.size))
      clear hb9
      go_wp2_with fail
      go_ret
      exact ⟨rfl, HB9.out⟩
end Go.Proofs.YtebkgkcfcenkgaaDoor
