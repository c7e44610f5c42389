/- assayerlaw4.HitTells. CONDITION: errors.errorType holds what start-up lays there. -/
import Derived.Test.YtbgcmemndaaopaaDoorHitQ
import Derived.Test.YtbgcmemndaaopaaDoorErrIs
namespace Go.Proofs.YtbgcmemndaaopaaDoor
open Go.RowKit Go.Mine Go.Mine.Hit

theorem eqself (c : Int) : (c == c) = true := by simp
set_option maxHeartbeats 4000000 in
set_option maxRecDepth 100000 in
theorem hitTells_any (ts : List Nat) (ao : Option Addr) (c : Nat) (W : World) (hg : Laid W) (hx : IntsAt .u32 W ao (cast ts)) (hn : ao = none → ts.length = 0) (hl : ts.length ≤ maxLen) :
    Calls Tryd.prog 3 #[.slice ao ts.length c] W fun e w' => e = .returned (.bool true) ∧ Below W.heap.size W w' := by
  have HX := Lib.hid (show ∀ w, Below W.heap.size W w → Laid w ∧ IntsAt .u32 w ao (cast ts) from fun w hb => ⟨hg.below hb, hx.below (Nat.le_refl _) hb⟩)
  have HN := Lib.hid (And.intro hn hl)
  have HS := Lib.hid (struck_any W)
  clear hg hx hn hl
  go_enter Tryd.func3, Tryd.ntmps3
  go_wp2_with fail
  refine HS.out.mono ?_
  clear HS
  rintro e w1 ⟨rfl, hb1⟩
  have HB1 := Lib.hid hb1
  have HQ := Lib.hid (qfault_any ts ao c w1 (HX.out w1 hb1).2 HN.out.2)
  have HC := Lib.hid (hcheck_any ts ao c w1 (HX.out w1 hb1).2 HN.out.2)
  obtain ⟨f, hf⟩ : ∃ f, f = fault ts := ⟨_, rfl⟩
  rw [← hf] at HQ HC
  have HF := Lib.hid hf
  have hff := eqself f
  clear hb1 hf
  go_wp2_with fail
  refine HQ.out.mono ?_
  clear HQ
  rintro e w' ⟨rfl, rfl⟩
  go_wp2_with fail
  refine HC.out.mono ?_
  clear HC
  rintro e w' ⟨hcase, rfl⟩
  by_cases hok : ok ts
  · rcases hcase with ⟨_, rfl⟩ | ⟨h, _⟩
    rotate_left
    · exact absurd hok h
    have hf0 : f = 0 := by rw [HF.out]; exact fault_ok hok
    subst hf0
    have HE := Lib.hid (error_is .nilIface 0 0 Num.nil w1 (HX.out w1 HB1.out).1)
    have HOK := Lib.hid hok
    have hl20 : ts.length ≤ 20 := hok.1
    clear hok hff
    go_wp2_with fail
    refine HE.out.mono ?_
    clear HE
    rintro e w2 ⟨rfl, hb2⟩
    have HB2 := Lib.hid (HB1.out.trans (hb2.mono HB1.out.size))
    have HLS := Lib.hid (leastSets_lst ts ao c w2 (HX.out w2 HB2.out).2 HOK.out)
    clear hb2
    go_wp2_with fail
    refine HLS.out.mono ?_
    clear HLS
    rintro e w3 ⟨v1, ql, rfl, hql, hqll, ho1, hb3⟩
    obtain ⟨a1, c1, rfl⟩ := owns_shape ho1
    have HB3 := Lib.hid (HB2.out.trans (hb3.mono HB2.out.size))
    have HO1 := Lib.hid (IntsAt.of_owns ho1)
    have HQL := Lib.hid hql
    clear hql
    have HHO := Lib.hid (hitsOf_lst ts ao c w3 (HX.out w3 HB3.out).2 HOK.out)
    clear hb3 ho1
    go_wp2_with fail
    refine HHO.out.mono ?_
    clear HHO
    rintro e w4 ⟨v2, qh, rfl, hqh, hqhl, ho2, hb4⟩
    obtain ⟨a2, c2, rfl⟩ := owns_shape ho2
    have HB4 := Lib.hid (HB3.out.trans (hb4.mono HB3.out.size))
    have HO14 := Lib.hid (HO1.out.below (Nat.le_refl _) hb4)
    have HO2 := Lib.hid (IntsAt.of_owns ho2)
    have HQH := Lib.hid hqh
    clear hqh
    have HL := Lib.hid (hLeast_any ts ao c w4 (HX.out w4 HB4.out).2 HN.out.1 HN.out.2)
    clear hb4 ho2 HO1
    go_wp2_with fail
    refine HL.out.mono ?_
    clear HL
    rintro e w5 ⟨⟨_, vm, m, rfl, hlm, hom⟩ | ⟨h, _⟩, hb5⟩
    rotate_left
    · exact absurd HOK.out h
    obtain rfl : m = ql := hlm.unique HQL.out
    obtain ⟨am, cm, rfl⟩ := owns_shape hom
    have HB5 := Lib.hid (HB4.out.trans (hb5.mono HB4.out.size))
    have HOM := Lib.hid (IntsAt.of_owns hom)
    have HO15 := Lib.hid (HO14.out.below (Nat.le_refl _) hb5)
    have HO25 := Lib.hid (HO2.out.below (Nat.le_refl _) hb5)
    have HE := Lib.hid (error_is .nilIface 0 0 Num.nil w5 (HX.out w5 HB5.out).1)
    clear hb5 hom hlm HO14 HO2
    go_wp2_with fail
    refine HE.out.mono ?_
    clear HE
    rintro e w6 ⟨rfl, hb6⟩
    have HB6 := Lib.hid (HB5.out.trans (hb6.mono HB5.out.size))
    have HO26 := Lib.hid (HO25.out.below (Nat.le_refl _) hb6)
    have HSS := Lib.hid (sets_cast m m am a1 cm c1 w6 (HOM.out.below (Nat.le_refl _) hb6) (HO15.out.below (Nat.le_refl _) hb6) (by unfold maxLen; omega))
    rw [show decide (m = m) = true by simp] at HSS
    clear hb6 HO15 HO25 HOM
    go_wp2_with fail
    refine HSS.out.mono ?_
    clear HSS
    rintro e w7 ⟨rfl, n7, hw7⟩
    have HB7 := Lib.hid (show Below W.heap.size W w7 by rw [hw7]; exact below_drewN HB6.out n7)
    have HO27 := Lib.hid (show IntsAt .u32 w7 a2 (cast qh) by rw [hw7]; exact HO26.out)
    have HH := Lib.hid (hHits_any ts ao c w7 (HX.out w7 HB7.out).2 HN.out.2)
    clear hw7 HO26
    go_wp2_with fail
    refine HH.out.mono ?_
    clear HH
    rintro e w8 ⟨⟨_, vh, h, rfl, hlh, hoh⟩ | ⟨h, _⟩, hb8⟩
    rotate_left
    · exact absurd HOK.out h
    obtain rfl : h = qh := hlh.unique HQH.out
    obtain ⟨ah, ch, rfl⟩ := owns_shape hoh
    have HB8 := Lib.hid (HB7.out.trans (hb8.mono HB7.out.size))
    have HOH := Lib.hid (IntsAt.of_owns hoh)
    have HO28 := Lib.hid (HO27.out.below (Nat.le_refl _) hb8)
    have HE := Lib.hid (error_is .nilIface 0 0 Num.nil w8 (HX.out w8 HB8.out).1)
    clear hb8 hoh hlh HO27
    go_wp2_with fail
    refine HE.out.mono ?_
    clear HE
    rintro e w9 ⟨rfl, hb9⟩
    have HB9 := Lib.hid (HB8.out.trans (hb9.mono HB8.out.size))
    have HSS := Lib.hid (sets_cast h h ah a2 ch c2 w9 (HOH.out.below (Nat.le_refl _) hb9) (HO28.out.below (Nat.le_refl _) hb9) (by unfold maxLen; omega))
    rw [show decide (h = h) = true by simp] at HSS
    clear hb9 HO28 HOH
    go_wp2_with fail
    refine HSS.out.mono ?_
    clear HSS
    rintro e wA ⟨rfl, nA, rfl⟩
    go_wp2_with fail
    go_ret
    exact ⟨by simp, below_drewN HB9.out nA⟩
  · rcases hcase with ⟨h, _⟩ | ⟨_, rfl⟩
    · exact absurd h hok
    have hf0 : (f == 0) = false := by
      rw [HF.out]
      rcases fault_bad hok with h | h <;> rw [h] <;> rfl
    have hf1 : decide (f = 0) = false := by
      rw [decide_eq_false_iff_not]
      intro h
      rw [h] at hf0
      cases hf0
    have HE := Lib.hid (fun w h => error_is (.iface 24 (.int .i64 f)) f f (Num.err f) w h)
    rw [hff] at HE
    have HOK := Lib.hid hok
    have HE1 := Lib.hid (HE.out w1 (HX.out w1 HB1.out).1)
    clear hok
    go_wp2_with fail
    refine HE1.out.mono ?_
    clear HE1
    rintro e w2 ⟨rfl, hb2⟩
    have HB2 := Lib.hid (HB1.out.trans (hb2.mono HB1.out.size))
    have HL := Lib.hid (hLeast_any ts ao c w2 (HX.out w2 HB2.out).2 HN.out.1 HN.out.2)
    rw [← HF.out] at HL
    clear hb2
    go_wp2_with fail
    refine HL.out.mono ?_
    clear HL
    rintro e w3 ⟨⟨h, _⟩ | ⟨_, rfl⟩, hb3⟩
    · exact absurd h HOK.out
    have HB3 := Lib.hid (HB2.out.trans (hb3.mono HB2.out.size))
    have HE1 := Lib.hid (HE.out w3 (HX.out w3 HB3.out).1)
    clear hb3
    go_wp2_with fail
    refine HE1.out.mono ?_
    clear HE1
    rintro e w4 ⟨rfl, hb4⟩
    have HB4 := Lib.hid (HB3.out.trans (hb4.mono HB3.out.size))
    have HSS := Lib.hid (sets_cast [] [] none none 0 0 w4 (IntsAt.nil _ _ _) (IntsAt.nil _ _ _) (by simp [maxLen]))
    clear hb4
    go_wp2_with fail
    refine HSS.out.mono ?_
    clear HSS
    rintro e w5 ⟨rfl, n5, hw5⟩
    have HB5 := Lib.hid (show Below W.heap.size W w5 by rw [hw5]; exact below_drewN HB4.out n5)
    have HH := Lib.hid (hHits_any ts ao c w5 (HX.out w5 HB5.out).2 HN.out.2)
    rw [← HF.out] at HH
    clear hw5
    go_wp2_with fail
    refine HH.out.mono ?_
    clear HH
    rintro e w6 ⟨⟨h, _⟩ | ⟨_, rfl⟩, hb6⟩
    · exact absurd h HOK.out
    have HB6 := Lib.hid (HB5.out.trans (hb6.mono HB5.out.size))
    have HE1 := Lib.hid (HE.out w6 (HX.out w6 HB6.out).1)
    clear hb6
    go_wp2_with fail
    refine HE1.out.mono ?_
    clear HE1
    rintro e w7 ⟨rfl, hb7⟩
    have HB7 := Lib.hid (HB6.out.trans (hb7.mono HB6.out.size))
    have HSS := Lib.hid (sets_cast [] [] none none 0 0 w7 (IntsAt.nil _ _ _) (IntsAt.nil _ _ _) (by simp [maxLen]))
    clear hb7
    go_wp2_with fail
    refine HSS.out.mono ?_
    clear HSS
    rintro e w8 ⟨rfl, n8, rfl⟩
    go_wp2_with fail
    go_ret
    exact ⟨by simp, below_drewN HB7.out n8⟩
end Go.Proofs.YtbgcmemndaaopaaDoor
