import Derived.Test.YtgkjmacdllibmaaDoorC
namespace Go.Proofs.YtgkjmacdllibmaaDoor
open Go.RowKit Go.Mine Go.Mine.Dd

set_option maxRecDepth 100000 in
set_option maxHeartbeats 1000000 in
theorem ddLeast_walk (l : List Int) (how : Int) (need : List Int) (limit : Int) (lo na : Option Addr) (lc nc : Nat) (W : World) (hg : Laid W) (hx : IntsAt .i64 W lo l) (hn : lo = none → l.length = 0) (hl : l.length ≤ maxLen) (hnx : IntsAt .i64 W na need) (hnl : need.length ≤ maxLen) :
    Calls Tryd.prog 3 #[.slice lo l.length lc, .int .i64 how, .slice na need.length nc, .int .i64 limit] W fun e w' => e = .returned (.bool true) ∧ Below W.heap.size W w' := by
  obtain ⟨F, hF0⟩ := fault_fun how limit need hnl
  have hF := hF0 W.heap.size (W.heap.size + 1 + 1) (W.heap.size + 1) na nc
  clear hF0
  have hb1 : Below W.heap.size W (((W.alloc (.cells #[.int .i64 how] 3)).alloc (.cells #[.slice na need.length nc] 22)).alloc (.cells #[.int .i64 limit] 3)) :=
    (((Below.refl _ _).alloc (Nat.le_refl _) _).alloc (by simp) _).alloc (by simp; omega) _
  have hh1 : Held how limit need W.heap.size (W.heap.size + 1 + 1) (W.heap.size + 1) na nc (((W.alloc (.cells #[.int .i64 how] 3)).alloc (.cells #[.slice na need.length nc] 22)).alloc (.cells #[.int .i64 limit] 3)) :=
    ⟨by simp [go_sem], by simp [go_sem], by simp [go_sem], hnx.below (Nat.le_refl _) hb1⟩
  have HM := Lib.hid (min_held how limit need F _ _ _ na nc hF l lo lc _ hh1 (hx.below (Nat.le_refl _) hb1) hn hl)
  have HF := Lib.hid hF
  have HX := Lib.hid hx
  have HH1 := Lib.hid hh1
  have HB1 := Lib.hid hb1
  have HG := Lib.hid hg
  unfold maxLen at hl
  clear hF hh1 hb1 hx hn hnx hnl hg
  go_enter Tryd.func3, Tryd.ntmps3
  go_wp2_with fail
  refine (fault_makes how na need.length nc limit W).mono ?_
  rintro e w1 ⟨rfl, rfl⟩
  go_wp2_with fail
  refine HM.out.mono ?_
  rintro e w2 ⟨⟨v, x, rfl, hv⟩, hb2⟩
  have HH2 := Lib.hid (HH1.out.below hb2)
  have HB2 := Lib.hid (HB1.out.trans (hb2.mono HB1.out.size))
  have HV := Lib.hid hv
  clear hb2 hv HM HH1 HB1
  go_wp2_with fail
  refine (least_fact w2).mono ?_
  rintro e w3 ⟨⟨a7, c7, rfl, h7⟩, hb3⟩
  have HH3 := Lib.hid (HH2.out.below hb3)
  have HB3 := Lib.hid (HB2.out.trans (hb3.mono HB2.out.size))
  have HG3 := Lib.hid (HG.out.below HB3.out)
  obtain ⟨b7, o7, rfl, hc7⟩ := h7 0 (by simp)
  simp at hc7
  have hX3 := Lib.hid (HX.out.below (Nat.le_refl _) HB3.out)
  rcases HV.out with ⟨h12, rfl, rfl⟩ | ⟨h12, hFl, rfl, rfl⟩ | ⟨h12, hFl, rfl, a10, c10, m, rfl, hm, hmx, hmc⟩
  · have hd : decide ((12 : Int) < (l.length : Int)) = true := by simp; omega
    have E := told_error (.iface 31 (.int .i64 4)) 4 4 (.inr rfl) w3 HG3.out
    clear hb3 h7 HV
    go_wp2_with fail
    refine E.mono ?_
    rintro e w4 ⟨rfl, hb4⟩
    have HB4 := Lib.hid (HB3.out.trans (hb4.mono HB3.out.size))
    clear hb4 E
    go_wp2_with fail
    go_ret
    exact ⟨by simp, HB4.out⟩
  · have hd : decide ((12 : Int) < (l.length : Int)) = false := by simp; omega
    have C := HF.out lo lc l w3 HH3.out hX3.out h12
    rw [hFl] at C
    have E := Lib.hid (told_error (.iface 31 (.int .i64 2)) 2 2 (.inr rfl) w3 HG3.out)
    clear hb3 h7 HV hFl h12
    go_wp2_with fail
    refine C.mono ?_
    rintro e w4 ⟨rfl, rfl⟩
    clear C
    go_wp2_with fail
    refine E.out.mono ?_
    rintro e w4 ⟨rfl, hb4⟩
    have HB4 := Lib.hid (HB3.out.trans (hb4.mono HB3.out.size))
    clear hb4
    go_wp2_with fail
    go_ret
    exact ⟨by simp, HB4.out⟩
  · have hd : decide ((12 : Int) < (l.length : Int)) = false := by simp; omega
    have hm12 : m.length ≤ 12 := Nat.le_trans hm.some_of.length_le h12
    have HMX := Lib.hid (hmx.below (Nat.le_refl _) hb3)
    have C := HF.out lo lc l w3 HH3.out hX3.out h12
    rw [hFl] at C
    have D := HF.out a10 c10 m w3 HH3.out HMX.out hm12
    rw [hm.fails] at D
    have P := Lib.hid (pieced_true m l a10 lo c10 lc w3 HMX.out hX3.out hm.some_of h12)
    have HD := Lib.hid D
    have HM := Lib.hid hm
    clear hb3 h7 HV hFl D hm hmx
    go_wp2_with fail
    refine C.mono ?_
    rintro e w4 ⟨rfl, rfl⟩
    clear C
    go_wp2_with fail
    refine HD.out.mono ?_
    rintro e w4 ⟨rfl, rfl⟩
    go_wp2_with fail
    refine P.out.mono ?_
    rintro e w4 ⟨rfl, nd, rfl⟩
    go_wp2_with fail
    go_loopw [16] (fun i wr => ∃ k : Nat, i = .int .i64 k ∧ k ≤ m.length ∧ Below w3.heap.size w3 wr) (fun i _ => m.length - (intOf i).toNat)
    case atStart => exact ⟨0, rfl, by omega, below_drewN (Below.refl _ _) _⟩
    case round =>
      obtain ⟨k, rfl, hk, hb⟩ := hrel
      by_cases hlt : k < m.length
      · have L := less_place a10 c10 m k wr (HMX.out.below (Nat.le_refl _) hb) hlt hm12 hmc
        have hFk := HM.out.none_too_many k hlt
        have hel : (m.eraseIdx k).length ≤ 12 := by rw [List.length_eraseIdx]; split <;> omega
        have HHr := Lib.hid (HH3.out.below hb)
        have HBr := Lib.hid hb
        have HFK := Lib.hid hFk
        have HEL := Lib.hid hel
        clear hFk hb hel
        go_wp2_with fail
        refine L.mono ?_
        rintro e w5 ⟨v5, rfl, ho5, hb5⟩
        obtain ⟨a5, c5, rfl⟩ := owns_shape ho5
        have C5 := HF.out a5 c5 (m.eraseIdx k) w5 (HHr.out.below hb5) (IntsAt.of_owns ho5) HEL.out
        rw [HFK.out] at C5
        have HB5 := Lib.hid (HBr.out.trans (hb5.mono HBr.out.size))
        clear ho5 hb5 L
        go_wp2_with fail
        refine C5.mono ?_
        rintro e w6 ⟨rfl, rfl⟩
        clear C5
        go_wp2_with fail
        go_roundw
        case rel => exact ⟨k + 1, by go_num, by omega, HB5.out⟩
        case measure => simp [intOf]; omega
      · have hke : k = m.length := by omega
        subst hke
        have HBr := Lib.hid (HB3.out.trans (hb.mono HB3.out.size))
        clear hb
        go_wp2_with fail
        go_ret
        exact ⟨rfl, HBr.out⟩
end Go.Proofs.YtgkjmacdllibmaaDoor
