/- assayerlaw4.HitTwice. No conditions beyond sizes. -/
import Derived.Test.YtbgcmemndaaopaaHitA
namespace Go.Proofs.Ytbgcmemndaaopaa
open Go.RowKit Go.Mine Go.Mine.Hit

set_option maxHeartbeats 2000000 in
set_option maxRecDepth 100000 in
theorem hitTwice_any (ts : List Nat) (ao : Option Addr) (c : Nat) (W : World) (hx : IntsAt .u32 W ao (cast ts)) (hn : ao = none → ts.length = 0) (hl : ts.length ≤ maxLen) :
    Calls Try.prog 4 #[.slice ao ts.length c] W fun e w' => e = .returned (.bool true) ∧ Below W.heap.size W w' := by
  have HX := Lib.hid (show ∀ w, Below W.heap.size W w → IntsAt .u32 w ao (cast ts) from fun w hb => hx.below (Nat.le_refl _) hb)
  have HN := Lib.hid (And.intro hn hl)
  have HS := Lib.hid (struck_any W)
  clear hx hn hl
  go_enter Try.func4, Try.ntmps4
  go_wp2_with fail
  refine HS.out.mono ?_
  clear HS
  rintro e w1 ⟨rfl, hb1⟩
  have HB1 := Lib.hid hb1
  have HH := Lib.hid (hHits_any ts ao c w1 (HX.out _ hb1) HN.out.2)
  clear hb1
  go_wp2_with fail
  refine HH.out.mono ?_
  clear HH
  rintro e w2 ⟨hcase, hb2⟩
  have HB2 := Lib.hid (HB1.out.trans (hb2.mono HB1.out.size))
  have HM := Lib.hid (hLeast_any ts ao c w2 (HX.out _ HB2.out) HN.out.1 HN.out.2)
  have hsz1 := HB1.out.size
  clear hb2
  rcases hcase with ⟨hok, vh, h, rfl, hlh, hoh⟩ | ⟨hno, rfl⟩
  rotate_left
  · have HNO := Lib.hid hno
    obtain ⟨f, hf⟩ : ∃ f, f = fault ts := ⟨_, rfl⟩
    rw [← hf] at HM ⊢
    clear hno hf
    go_wp2_with fail
    refine HM.out.mono ?_
    clear HM
    rintro e w3 ⟨⟨hok, _⟩ | ⟨_, rfl⟩, hb3⟩
    · exact absurd hok HNO.out
    have HB3 := Lib.hid (HB2.out.trans (hb3.mono HB2.out.size))
    clear hb3
    go_wp2_with fail
    go_ret
    exact ⟨rfl, HB3.out⟩
  · have HOK := Lib.hid hok
    have HLH := Lib.hid hlh
    have HOH := Lib.hid hoh
    obtain ⟨ah, ch, rfl⟩ := owns_shape hoh
    clear hok hlh hoh
    go_wp2_with fail
    refine HM.out.mono ?_
    clear HM
    rintro e w3 ⟨⟨_, vm, m, rfl, hlm, hom⟩ | ⟨hno, _⟩, hb3⟩
    rotate_left
    · exact absurd HOK.out hno
    obtain ⟨am, cm, rfl⟩ := owns_shape hom
    have HB3 := Lib.hid (HB2.out.trans (hb3.mono HB2.out.size))
    have HLM := Lib.hid hlm
    have HOH3 := Lib.hid (IntsAt.of_owns (owns_below HOH.out hb3))
    have HOM := Lib.hid (IntsAt.of_owns hom)
    have HG := Lib.hid (hHits_any m am cm w3 HOM.out (by have := hlm.le; have := HOK.out.1; unfold maxLen; omega))
    clear hlm hom hb3 HOH
    go_wp2_with fail
    refine HG.out.mono ?_
    clear HG
    rintro e w4 ⟨⟨_, vg, g, rfl, hlg, hog⟩ | ⟨hno, _⟩, hb4⟩
    rotate_left
    · exact absurd (HLM.out.ok HOK.out) hno
    have hgh : g = h := hlg.unique (HLH.out.congr fun s => (least_hits HLM.out s).symm)
    subst hgh
    obtain ⟨ag, cg, rfl⟩ := owns_shape hog
    have HB4 := Lib.hid (HB3.out.trans (hb4.mono HB3.out.size))
    have HOH4 := Lib.hid (HOH3.out.below (Nat.le_refl _) hb4)
    have HOM4 := Lib.hid (HOM.out.below (Nat.le_refl _) hb4)
    have hgl := HLH.out.len
    have HSS := Lib.hid (sets_cast g g ag ah cg ch w4 (IntsAt.of_owns hog) HOH4.out (by unfold maxLen; omega))
    rw [show decide (g = g) = true by simp] at HSS
    clear hog hb4 hlg HOH3 HOM
    go_wp2_with fail
    refine HSS.out.mono ?_
    clear HSS
    rintro e w5 ⟨rfl, n5, hw5⟩
    have HB5 := Lib.hid (show Below W.heap.size W w5 by rw [hw5]; exact below_drewN HB4.out n5)
    have HOH5 := Lib.hid (show IntsAt .u32 w5 ah (cast g) by rw [hw5]; exact HOH4.out)
    have HOM5 := Lib.hid (show IntsAt .u32 w5 am (cast m) by rw [hw5]; exact HOM4.out)
    have HK := Lib.hid (hHits_any g ah ch w5 HOH5.out (by unfold maxLen; omega))
    clear hw5 HOH4 HOM4 HB4
    go_wp2_with fail
    refine HK.out.mono ?_
    clear HK
    rintro e w6 ⟨⟨hok6, vk, k, rfl, hlk, hok⟩ | ⟨hno, rfl⟩, hb6⟩
    · have hkm : k = m := hlk.unique (HLM.out.congr fun s => (berge_least HOK.out.2 HLH.out s).symm)
      subst hkm
      obtain ⟨ak, ck, rfl⟩ := owns_shape hok
      have HB6 := Lib.hid (HB5.out.trans (hb6.mono HB5.out.size))
      have HOM6 := Lib.hid (HOM5.out.below (Nat.le_refl _) hb6)
      have hg20 : g.length ≤ 20 := hok6.1
      have HSS := Lib.hid (sets_cast k k ak am ck cm w6 (IntsAt.of_owns hok) HOM6.out (by have := HLM.out.le; have := HOK.out.1; unfold maxLen; omega))
      rw [show decide (k = k) = true by simp] at HSS
      clear hok hb6 hlk hok6
      go_wp2_with fail
      refine HSS.out.mono ?_
      clear HSS
      rintro e w7 ⟨rfl, n7, rfl⟩
      have hd : decide ((20 : Int) < (g.length : Int)) = false := by rw [decide_eq_false_iff_not]; omega
      go_wp2_with fail
      go_ret
      exact ⟨by simp, below_drewN HB6.out n7⟩
    · have hfl : fault g = 4 ∧ 20 < g.length := by
        have hin : ∀ t ∈ g, t < 4096 := fun t ht => (HLH.out.so ht).1
        have h20 : 20 < g.length := by
          rcases Nat.lt_or_ge 20 g.length with h1 | h1
          · exact h1
          · exact absurd ⟨h1, hin⟩ hno
        exact ⟨by unfold fault; rw [if_pos h20], h20⟩
      rw [hfl.1]
      have hg20 := hfl.2
      have HB6 := Lib.hid (HB5.out.trans (hb6.mono HB5.out.size))
      have HOM6 := Lib.hid (HOM5.out.below (Nat.le_refl _) hb6)
      have HSS := Lib.hid (sets_cast [] m none am 0 cm w6 (IntsAt.nil _ _ _) HOM6.out (by simp [maxLen]))
      clear hfl hno hb6
      go_wp2_with fail
      refine HSS.out.mono ?_
      clear HSS
      rintro e w7 ⟨rfl, n7, rfl⟩
      have hd : decide ((20 : Int) < (g.length : Int)) = true := by rw [decide_eq_true_iff]; omega
      have hd2 : (20 : Int) < (g.length : Int) := by omega
      go_wp2_with fail
      go_ret
      exact ⟨by simp, below_drewN HB6.out n7⟩
end Go.Proofs.Ytbgcmemndaaopaa
