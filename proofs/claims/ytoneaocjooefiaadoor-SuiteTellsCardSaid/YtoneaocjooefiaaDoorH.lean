/- SuiteTells' walk where the input is right. -/
import Derived.Test.YtoneaocjooefiaaDoorG
namespace Go.Proofs.YtoneaocjooefiaaDoor
open Go.RowKit Go.Mine Go.Mine.Suite

theorem owns_max {w : World} {B m : Nat} {v : Value} {xs : List Value} (h : w.ownsRow B 3 1 v m xs) : m ≤ maxLen := by
  rcases h.2 with ⟨_, e⟩ | ⟨g, cap, cur, _, _, _, h1, h2, _⟩
  · omega
  · omega

set_option maxHeartbeats 1000000 in
set_option maxRecDepth 100000 in
theorem tells_good (n : Int) (ts : List Nat) (ao : Option Addr) (c : Nat) (W : World) (hg : Laid W) (hx : IntsAt .u32 W ao (cast ts)) (h32 : ∀ t ∈ ts, t < 4294967296) (hl : ts.length ≤ maxLen) (hT : Tab W) (hok : sok n ts) :
    Calls Tryd.prog 6 #[.int .i64 n, .slice ao ts.length c] W fun e w' => e = .returned (.bool true) ∧ Below W.heap.size W w' := by
  have HX := Lib.hid (show ∀ w, Below W.heap.size W w → IntsAt .u32 w ao (cast ts) from fun w hb => hx.below (Nat.le_refl _) hb)
  have HT := Lib.hid (show ∀ w, Below W.heap.size W w → Tab w from fun w hb => hT.on hb)
  have HG := Lib.hid (show ∀ w, Below W.heap.size W w → Laid w from fun w hb => hg.below hb)
  have H32 := Lib.hid h32
  have HL := Lib.hid hl
  have HOK := Lib.hid hok
  have HS := Lib.hid (suited_any W hT)
  clear hx h32 hl hT hg hok
  go_enter Tryd.func6, Tryd.ntmps6
  go_wp2_with fail
  refine HS.out.mono ?_
  rintro e w1 ⟨rfl, hb1⟩
  have HB1 := Lib.hid hb1
  have h1 := sfault_any n ts ao c w1 (HX.out _ hb1) H32.out HL.out
  rw [sfault_ok HOK.out] at h1
  go_wp2_with fail
  refine h1.mono ?_
  rintro e w' ⟨rfl, rfl⟩
  clear h1
  have h2 := scheck_any n ts ao c w1 (HX.out _ hb1) H32.out HL.out
  go_wp2_with fail
  refine h2.mono ?_
  rintro e w' ⟨⟨_, rfl⟩ | ⟨hno, _⟩, rfl⟩
  rotate_left
  · exact absurd HOK.out hno
  clear h2
  go_wp2_with fail
  refine (error_same .nilIface 0 (.inl ⟨rfl, rfl⟩) w1 (HG.out _ HB1.out)).mono ?_
  rintro e w2 ⟨rfl, hb2⟩
  have HB2 := Lib.hid (HB1.out.trans (hb2.mono HB1.out.size))
  clear hb1 hb2
  go_wp2_with fail
  refine (greedyOf_any ts ao c w2 (HX.out _ HB2.out) H32.out HOK.out.2.2.1).mono ?_
  rintro e w3 ⟨⟨_, l, rfl, hgr, v3, rfl, how3⟩, hb3⟩
  obtain ⟨lo, lc, rfl⟩ := owns_shape how3
  have HGR := Lib.hid hgr
  have HO3 := Lib.hid (IntsAt.of_owns how3)
  have HM3 := Lib.hid (owns_max how3)
  have HB3 := Lib.hid (HB2.out.trans (hb3.mono HB2.out.size))
  clear hgr how3 hb3
  go_wp2_with fail
  refine (leastTests_any ts ao c w3 (HX.out _ HB3.out) H32.out HOK.out.2.2.1).mono ?_
  rintro e w4 ⟨⟨_, b, rfl, hfew, v4, rfl, how4⟩, hb4⟩
  obtain ⟨bo, bc, rfl⟩ := owns_shape how4
  have HFEW := Lib.hid hfew
  have HO4 := Lib.hid (IntsAt.of_owns how4)
  have HM4 := Lib.hid (owns_max how4)
  have HB4 := Lib.hid (HB3.out.trans (hb4.mono HB3.out.size))
  have HL4 := Lib.hid (HO3.out.below (Nat.le_refl _) hb4)
  clear hfew how4 hb4 HO3
  go_wp2_with fail
  refine (greedy_any n ts ao c w4 (HX.out _ HB4.out) H32.out HL.out (HT.out _ HB4.out)).mono ?_
  rintro e w5 ⟨⟨hno, _⟩ | ⟨_, _, l2, rfl, hgr2, v5, rfl, how5⟩, hb5⟩
  · exact absurd HOK.out hno
  obtain rfl := HGR.out.unique hgr2
  obtain ⟨lo2, lc2, rfl⟩ := owns_shape how5
  have HO5 := Lib.hid (IntsAt.of_owns how5)
  have HL5 := Lib.hid (HL4.out.below (Nat.le_refl _) hb5)
  have HN5 := Lib.hid (HO4.out.below (Nat.le_refl _) hb5)
  have HB5 := Lib.hid (HB4.out.trans (hb5.mono HB4.out.size))
  clear hgr2 how5 hb5 HL4 HO4
  go_wp2_with fail
  refine (error_same .nilIface 0 (.inl ⟨rfl, rfl⟩) w5 (HG.out _ HB5.out)).mono ?_
  rintro e w6 ⟨rfl, hb6⟩
  have HB6 := Lib.hid (HB5.out.trans (hb6.mono HB5.out.size))
  have HI6 := Lib.hid (ints_same (cast l) lo2 lo lc2 lc w6 (HO5.out.below (Nat.le_refl _) hb6) (HL5.out.below (Nat.le_refl _) hb6) HM3.out)
  have HN6 := Lib.hid (HN5.out.below (Nat.le_refl _) hb6)
  clear hb6 HO5 HL5 HN5
  go_wp2_with fail
  refine HI6.out.mono ?_
  clear HI6
  rintro e w7 ⟨rfl, hb7⟩
  have HB7 := Lib.hid (HB6.out.trans (hb7.mono HB6.out.size))
  have HN7 := Lib.hid (HN6.out.below (Nat.le_refl _) hb7)
  clear hb7 HN6
  go_wp2_with fail
  refine (least_any n ts ao c w7 (HX.out _ HB7.out) H32.out HL.out (HT.out _ HB7.out)).mono ?_
  rintro e w8 ⟨⟨hno, _⟩ | ⟨_, _, b2, rfl, hfew2, v8, rfl, how8⟩, hb8⟩
  · exact absurd HOK.out hno
  obtain rfl := HFEW.out.unique hfew2
  obtain ⟨bo2, bc2, rfl⟩ := owns_shape how8
  have HO8 := Lib.hid (IntsAt.of_owns how8)
  have HN8 := Lib.hid (HN7.out.below (Nat.le_refl _) hb8)
  have HB8 := Lib.hid (HB7.out.trans (hb8.mono HB7.out.size))
  clear hfew2 how8 hb8 HN7
  go_wp2_with fail
  refine (error_same .nilIface 0 (.inl ⟨rfl, rfl⟩) w8 (HG.out _ HB8.out)).mono ?_
  rintro e w9 ⟨rfl, hb9⟩
  have HB9 := Lib.hid (HB8.out.trans (hb9.mono HB8.out.size))
  have HI9 := Lib.hid (ints_same (cast b) bo2 bo bc2 bc w9 (HO8.out.below (Nat.le_refl _) hb9) (HN8.out.below (Nat.le_refl _) hb9) HM4.out)
  clear hb9 HO8 HN8
  go_wp2_with fail
  refine HI9.out.mono ?_
  clear HI9
  rintro e w10 ⟨rfl, hb10⟩
  have HB10 := Lib.hid (HB9.out.trans (hb10.mono HB9.out.size))
  clear hb10
  go_wp2_with fail
  go_ret
  exact ⟨by simp, HB10.out⟩
end Go.Proofs.YtoneaocjooefiaaDoor
