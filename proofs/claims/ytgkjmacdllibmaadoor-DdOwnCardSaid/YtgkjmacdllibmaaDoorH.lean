import Derived.Test.YtgkjmacdllibmaaDoorG
namespace Go.Proofs.YtgkjmacdllibmaaDoor
open Go.RowKit Go.Mine Go.Mine.Dd

set_option maxRecDepth 100000 in
set_option maxHeartbeats 1000000 in
theorem ddOwn_walk (l : List Int) (how : Int) (need : List Int) (limit x : Int) (lo na : Option Addr) (lc nc : Nat) (W : World) (hg : Laid W) (hx : IntsAt .i64 W lo l) (hn : lo = none → l.length = 0) (hl : l.length ≤ maxLen) (hre : l.length * 8 ≤ 140737488351232) (hnx : IntsAt .i64 W na need) (hnl : need.length ≤ maxLen) :
    Calls Tryd.prog 4 #[.slice lo l.length lc, .int .i64 how, .slice na need.length nc, .int .i64 limit, .int .i64 x] W fun e w' => e = .returned (.bool true) ∧ Below W.heap.size W w' := by
  obtain ⟨i0, hi0, hz0, hz1, hz2⟩ := info_parts slInfo3
  obtain ⟨F, hF0⟩ := fault_fun how limit need hnl
  have hF := hF0 (W.heap.size + 1) (W.heap.size + 1 + 1 + 1) (W.heap.size + 1 + 1) na nc
  clear hF0
  have hb5 : Below W.heap.size W (((((W.alloc (.cells #[.int .i64 x] 3)).alloc (.cells #[.int .i64 how] 3)).alloc (.cells #[.slice na need.length nc] 22)).alloc (.cells #[.int .i64 limit] 3)).alloc (.cells #[.func (.func 16) #[] #[.pointer (some ⟨W.heap.size + 1, 0, none⟩), .pointer (some ⟨W.heap.size + 1 + 1 + 1, 0, none⟩), .pointer (some ⟨W.heap.size + 1 + 1, 0, none⟩)]] 23)) :=
    (((((Below.refl _ _).alloc (Nat.le_refl _) _).alloc (by simp) _).alloc (by simp; omega) _).alloc (by simp; omega) _).alloc (by simp; omega) _
  have hh5 : Held how limit need (W.heap.size + 1) (W.heap.size + 1 + 1 + 1) (W.heap.size + 1 + 1) na nc (((((W.alloc (.cells #[.int .i64 x] 3)).alloc (.cells #[.int .i64 how] 3)).alloc (.cells #[.slice na need.length nc] 22)).alloc (.cells #[.int .i64 limit] 3)).alloc (.cells #[.func (.func 16) #[] #[.pointer (some ⟨W.heap.size + 1, 0, none⟩), .pointer (some ⟨W.heap.size + 1 + 1 + 1, 0, none⟩), .pointer (some ⟨W.heap.size + 1 + 1, 0, none⟩)]] 23)) :=
    ⟨by simp [go_sem], by simp [go_sem], by simp [go_sem], hnx.below (Nat.le_refl _) hb5⟩
  have hbx5 : (((((W.alloc (.cells #[.int .i64 x] 3)).alloc (.cells #[.int .i64 how] 3)).alloc (.cells #[.slice na need.length nc] 22)).alloc (.cells #[.int .i64 limit] 3)).alloc (.cells #[.func (.func 16) #[] #[.pointer (some ⟨W.heap.size + 1, 0, none⟩), .pointer (some ⟨W.heap.size + 1 + 1 + 1, 0, none⟩), .pointer (some ⟨W.heap.size + 1 + 1, 0, none⟩)]] 23)).cell? ⟨W.heap.size, 0, none⟩ = some (.int .i64 x) := by simp [go_sem]
  have hbf5 : (((((W.alloc (.cells #[.int .i64 x] 3)).alloc (.cells #[.int .i64 how] 3)).alloc (.cells #[.slice na need.length nc] 22)).alloc (.cells #[.int .i64 limit] 3)).alloc (.cells #[.func (.func 16) #[] #[.pointer (some ⟨W.heap.size + 1, 0, none⟩), .pointer (some ⟨W.heap.size + 1 + 1 + 1, 0, none⟩), .pointer (some ⟨W.heap.size + 1 + 1, 0, none⟩)]] 23)).cell? ⟨W.heap.size + 1 + 1 + 1 + 1, 0, none⟩ = some (.func (.func 16) #[] #[.pointer (some ⟨W.heap.size + 1, 0, none⟩), .pointer (some ⟨W.heap.size + 1 + 1 + 1, 0, none⟩), .pointer (some ⟨W.heap.size + 1 + 1, 0, none⟩)]) := by simp [go_sem]
  have HH5 := Lib.hid hh5
  have HB5 := Lib.hid hb5
  have HBX5 := Lib.hid hbx5
  have HBF5 := Lib.hid hbf5
  have HF := Lib.hid hF
  have HX := Lib.hid hx
  have HG := Lib.hid hg
  have HN := Lib.hid hn
  have HL := Lib.hid hl
  clear hF hx hn hnx hnl hg hb5 hh5 hbx5 hbf5
  go_enter Tryd.func4, Tryd.ntmps4
  go_wp2_with fail
  refine (fault_makes how na need.length nc limit _).mono ?_
  rintro e w1 ⟨rfl, rfl⟩
  go_wp2_with (at_builtin; refine wpList_append_any _ rfl (.tmp 26) (.tmp 27) 22 rfl W.heap.size 3 i0 (.int .i64 0) 1 8 Tryd.underlying22 hi0 hz0 hz1 hz2 rfl (by decide) _ 0 _ [] rfl ?c1 lo l.length lc (l.map (Value.int .i64)) rfl (by simp) HN.out ?c2 (ints1 _ _) ?c3 ?c4 ?c5 _ rfl ?_)
  case c1 => exact owns_empty (by first | omega | (simp; try omega)) (heap_alloc_at _ _ (by simp))
  case c2 => exact (HX.out.below (Nat.le_refl _) (HB5.out.alloc HB5.out.size _)).news
  case c3 => unfold maxLen; omega
  case c4 => omega
  case c5 => simp; try omega
  intro g cap w3 hown hgrow hat hlt
  have hb53 := Below.grown ((Below.refl (((((W.alloc (.cells #[.int .i64 x] 3)).alloc (.cells #[.int .i64 how] 3)).alloc (.cells #[.slice na need.length nc] 22)).alloc (.cells #[.int .i64 limit] 3)).alloc (.cells #[.func (.func 16) #[] #[.pointer (some ⟨W.heap.size + 1, 0, none⟩), .pointer (some ⟨W.heap.size + 1 + 1 + 1, 0, none⟩), .pointer (some ⟨W.heap.size + 1 + 1, 0, none⟩)]] 23)).heap.size (((((W.alloc (.cells #[.int .i64 x] 3)).alloc (.cells #[.int .i64 how] 3)).alloc (.cells #[.slice na need.length nc] 22)).alloc (.cells #[.int .i64 limit] 3)).alloc (.cells #[.func (.func 16) #[] #[.pointer (some ⟨W.heap.size + 1, 0, none⟩), .pointer (some ⟨W.heap.size + 1 + 1 + 1, 0, none⟩), .pointer (some ⟨W.heap.size + 1 + 1, 0, none⟩)]] 23))).alloc (Nat.le_refl _) (.cells #[] 3)) hgrow (by simp) (by simp)
  have hb3 := HB5.out.trans (hb53.mono HB5.out.size)
  have HH3 := Lib.hid (HH5.out.below hb53)
  have hbx3 := (hb53.cell (p := ⟨W.heap.size, 0, none⟩) (by simp; try omega)).trans HBX5.out
  have hbf3 := (hb53.cell (p := ⟨W.heap.size + 1 + 1 + 1 + 1, 0, none⟩) (by simp; try omega)).trans HBF5.out
  have hsz3 := hb53.size
  simp at hsz3
  have hown3 : IntsAt .i64 w3 (some ⟨g, 0, none⟩) l := IntsAt.of_owns (by simpa using hown)
  have HB3 := Lib.hid hb3
  have HBX3 := Lib.hid hbx3
  have HBF3 := Lib.hid hbf3
  have HOW3 := Lib.hid hown3
  have M1 := min_spec 12 #[.pointer (some ⟨W.heap.size + 1 + 1 + 1 + 1, 0, none⟩), .pointer (some ⟨W.heap.size, 0, none⟩)] F l (some ⟨g, 0, none⟩) cap w3 hown3 (fun h => by cases h) HL.out (fun v w => run12 v _ _ w) (by
    intro w B v xs hb hB hBw ho h12
    obtain ⟨ao, c, rfl⟩ := owns_shape ho
    exact spoil F _ x (W.heap.size + 1 + 1 + 1 + 1) W.heap.size B ao c xs w _ _ _ rfl ((hb.cell (by simp; omega)).trans HBF3.out) ((hb.cell (by simp; omega)).trans HBX3.out) (by omega) ho h12 hBw (HF.out ao c xs w (HH3.out.below hb) (IntsAt.of_owns ho) h12))
  have HM1 := Lib.hid M1
  try simp only [Nat.zero_add]
  clear hown hgrow hat hlt hb53 hb3 hbx3 hbf3 hown3 M1 HB5 HH5 HBX5 HBF5
  go_wp2_with fail
  refine HM1.out.mono ?_
  rintro e w4 ⟨⟨a13, c13, m, y, rfl, hs1, hi1, hm12⟩, hb4⟩
  have hbf4 := (hb4.cell (p := ⟨W.heap.size + 1 + 1 + 1 + 1, 0, none⟩) (by simp; omega)).trans HBF3.out
  have HB4 := Lib.hid (HB3.out.trans (hb4.mono HB3.out.size))
  have HH4 := Lib.hid (HH3.out.below hb4)
  have HOW4 := Lib.hid (HOW3.out.below (Nat.le_refl _) hb4)
  have HS1 := Lib.hid hs1
  have HI1 := Lib.hid hi1
  have HM2 := Lib.hid (min_spec 16 #[.pointer (some ⟨W.heap.size + 1, 0, none⟩), .pointer (some ⟨W.heap.size + 1 + 1 + 1, 0, none⟩), .pointer (some ⟨W.heap.size + 1 + 1, 0, none⟩)] F l lo lc w4 (HX.out.below (Nat.le_refl _) HB4.out) HN.out HL.out (fun v w => run16 v _ _ _ w) (by
    intro w B v xs hb hB hBw ho h12
    obtain ⟨ao, c, rfl⟩ := owns_shape ho
    refine (HF.out ao c xs w (HH4.out.below hb) (IntsAt.of_owns ho) h12).mono ?_
    rintro e w' ⟨rfl, rfl⟩
    exact ⟨rfl, Below.refl _ _⟩))
  clear hb4 hs1 hi1 HM1
  go_wp2_with fail
  refine HM2.out.mono ?_
  rintro e w5 ⟨⟨a15, c15, m2, y2, rfl, hs2, hi2, _⟩, hb5⟩
  obtain ⟨rfl, rfl⟩ := hs2.one HS1.out
  have HB5 := Lib.hid (HB4.out.trans (hb5.mono HB4.out.size))
  have HI1 := Lib.hid (HI1.out.below (Nat.le_refl _) hb5)
  have HI2 := Lib.hid hi2
  have HOW5 := Lib.hid (HOW4.out.below (Nat.le_refl _) hb5)
  clear hb5 hi2 hs2 HM2 hbf4
  go_wp2_with fail
  refine (least_fact w5).mono ?_
  rintro e w6 ⟨⟨a17, c17, rfl, _⟩, hb6⟩
  have HB6 := Lib.hid (HB5.out.trans (hb6.mono HB5.out.size))
  have HI1 := Lib.hid (HI1.out.below (Nat.le_refl _) hb6)
  have HI2 := Lib.hid (HI2.out.below (Nat.le_refl _) hb6)
  have A := Ints_any l l (some ⟨g, 0, none⟩) lo cap lc w6 (HOW5.out.below (Nat.le_refl _) hb6) (HX.out.below (Nat.le_refl _) HB6.out) HL.out
  have HA := Lib.hid A
  clear hb6 A
  go_wp2_with fail
  refine HA.out.mono ?_
  rintro e w7 ⟨rfl, n7, rfl⟩
  have HC := Lib.hid (Ints_any m2 m2 a13 a15 c13 c15 (w6.drewN n7) (HI1.out.drewN n7) (HI2.out.drewN n7) (by unfold maxLen; omega))
  have HB7 := Lib.hid (below_drewN HB6.out n7)
  go_wp2_with fail
  refine HC.out.mono ?_
  rintro e w8 ⟨rfl, n8, rfl⟩
  obtain ⟨c, hc⟩ := HS1.out.told
  have HB8 := Lib.hid (below_drewN HB7.out n8)
  have T := Lib.hid (told_same y2 y2 c hc hc ((w6.drewN n7).drewN n8) (HG.out.below HB8.out))
  rw [drewN_drewN] at T HB8
  clear hc
  go_wp2_with fail
  refine T.out.mono ?_
  rintro e w9 ⟨rfl, hb9⟩
  have HB9 := Lib.hid (HB8.out.trans (hb9.mono HB8.out.size))
  clear hb9
  go_wp2_with fail
  go_ret
  exact ⟨by simp, HB9.out⟩
end Go.Proofs.YtgkjmacdllibmaaDoor
