/- assayerref2.LeastTests. No conditions beyond sizes. -/
import Derived.Test.YtoneaocjooefiaaDoorSuite14
namespace Go.Proofs.YtoneaocjooefiaaDoor
open Go.RowKit Go.Mine Go.Mine.Suite

theorem shl_less2 : ∀ n, n < 13 → wrap64 (wrap64 ((2 : Int) ^ n) - 1) = ((2 ^ n - 1 : Nat) : Int) ∧ 2 ^ n - 1 < 4096 ∧ 2 ^ n - 1 + 1 = 2 ^ n := by decide +kernel
theorem owns_lower {w : World} {B B' : Nat} {v : Value} {m : Nat} {xs : List Value} (h : w.ownsRow B 3 1 v m xs) (hb : B' ≤ B) : w.ownsRow B' 3 1 v m xs := by
  refine ⟨h.1, ?_⟩
  rcases h.2 with h | ⟨g, cap, cur, e, h1, h2⟩
  · exact .inl h
  · exact .inr ⟨g, cap, cur, e, Nat.le_trans hb h1, h2⟩
theorem places_len (v : Nat) : (places v).length ≤ 32 := by
  have := List.length_filter_le (fun i => v.testBit i) (List.range 32)
  simpa [places] using this
set_option maxHeartbeats 2000000 in
set_option maxRecDepth 100000 in
theorem leastTests_any (ts : List Nat) (ao : Option Addr) (c : Nat) (W : World) (hx : IntsAt .u32 W ao (cast ts)) (h32 : ∀ t ∈ ts, t < 4294967296) (hl12 : ts.length ≤ 12) :
    Calls Tryd.prog 19 #[.slice ao ts.length c] W fun e w' => (∃ v l, e = .returned v ∧ Fewest ts l ∧ OwnIs w' W.heap.size v (cast l)) ∧ Below W.heap.size W w' := by
  obtain ⟨hsh, hv, hv1⟩ := shl_less2 ts.length (by omega)
  have HX := Lib.hid hx
  have H32 := Lib.hid h32
  have HST := Lib.hid (LInv.start (ts := ts) hl12)
  have HV1 := Lib.hid hv1
  have HPW := Lib.hid (pass_pow (ts := ts))
  obtain ⟨vv, hvv⟩ : ∃ vv, vv = 2 ^ ts.length - 1 := ⟨_, rfl⟩
  rw [← hvv] at hsh hv HST HV1 HPW
  have HSH := Lib.hid hsh
  have HP := Lib.hid (places_any vv (by omega) W)
  clear hx h32 hsh hvv hv1
  go_enter Tryd.func19, Tryd.ntmps19
  go_wp2_with fail
  try rw [HSH.out]
  refine HP.out.mono ?_
  clear HP
  rintro e w1 ⟨⟨v, rfl, v', rfl, how⟩, hb1⟩
  obtain ⟨po, pc, rfl⟩ := owns_shape how
  have HOWN0 := Lib.hid how
  have HB1 := Lib.hid hb1
  have HPL := Lib.hid (places_len vv)
  clear how hb1
  go_wp2_with fail
  go_loopw [4, 5] (fun v0 iv wr => ∃ (u : Nat) (b : List Nat), iv = .int .i64 u ∧ u ≤ vv + 1 ∧ b.length ≤ 32 ∧ RowKit.Hid (LInv ts u b) ∧ OwnIs wr W.heap.size v0 (cast b) ∧ Below W.heap.size W wr) (fun _ iv _ => vv + 1 - (intOf iv).toNat)
  case atStart => exact ⟨0, places vv, rfl, by omega, HPL.out, HST, ⟨_, rfl, HOWN0.out⟩, HB1.out⟩
  case round =>
    obtain ⟨u, b, rfl, hu, hb32, HIN, ⟨v, rfl, hown⟩, hb⟩ := hrel
    obtain ⟨bo, bc, rfl⟩ := owns_shape hown
    have HOWN := Lib.hid hown
    have HB := Lib.hid hb
    by_cases hlt : u ≤ vv
    · have HXW := HX.out.below (Nat.le_refl _) hb
      have HP1 := Lib.hid (qpassed_any ts u (by omega) ao c wr HXW H32.out hl12)
      have HP2 := Lib.hid (qpassed_any ts vv (by omega) ao c wr HXW H32.out hl12)
      rw [HPW.out] at HP2
      have HTAKE := Lib.hid (fun h1 h2 => HIN.out.take hl12 (by have := HV1.out; omega) h1 h2)
      have HKEEP := Lib.hid (fun h => HIN.out.keep h)
      obtain ⟨p, hp⟩ : ∃ p, p = passN ts u ts.length := ⟨_, rfl⟩
      rw [← hp] at HP1 HTAKE HKEEP
      obtain ⟨all, hall⟩ : ∃ all, all = orAll ts := ⟨_, rfl⟩
      rw [← hall] at HP2 HTAKE HKEEP
      clear hp hall HXW hown hb HIN
      by_cases hpa : p = all
      · subst hpa
        have hpe : ((p : Int) == (p : Int)) = true := by simp
        have HPL := Lib.hid (places_any u (by omega) wr)
        go_wp2_with fail
        refine HP1.out.mono ?_
        rintro e w' ⟨rfl, rfl⟩
        go_wp2_with fail
        refine HP2.out.mono ?_
        rintro e w' ⟨rfl, rfl⟩
        go_wp2_with fail
        refine HPL.out.mono ?_
        rintro e w5 ⟨⟨_, rfl, v5, rfl, how5⟩, hb5⟩
        obtain ⟨eo, ec, rfl⟩ := owns_shape how5
        have HOW5 := Lib.hid how5
        have HB5 := Lib.hid hb5
        have HBW := Lib.hid (HB.out.trans (hb5.mono HB.out.size))
        have HSH := shorter_any (places u) b eo bo ec bc w5 (IntsAt.of_owns how5) ((IntsAt.of_owns HOWN.out).below (Nat.le_refl _) hb5) (Nat.le_trans (places_len u) (by decide)) (by omega)
        rw [← cast_len (places u), ← cast_len b] at HSH
        obtain ⟨s, hs⟩ : ∃ s, s = shorterB (places u) b := ⟨_, rfl⟩
        rw [← hs] at HSH HTAKE HKEEP
        have HSS := Lib.hid HSH
        have HU := Lib.hid (show u < 4294967296 by omega)
        clear hs HSH how5 hb5 HPL
        cases s
        · have HK := Lib.hid (HKEEP.out (fun _ => rfl))
          go_wp2_with fail
          refine HSS.out.mono ?_
          rintro e w6 ⟨rfl, q, rfl⟩
          go_wp2_with fail
          go_roundw
          case rel => exact ⟨u + 1, b, by go_num, by omega, hb32, HK, ⟨_, rfl, owns_below HOWN.out (below_drewN HB5.out q)⟩, below_drewN HBW.out q⟩
          case measure => simp [intOf]; omega
        · have HT := Lib.hid (HTAKE.out (by first | trivial | rfl) (by first | trivial | rfl))
          go_wp2_with fail
          refine HSS.out.mono ?_
          rintro e w6 ⟨rfl, q, rfl⟩
          have HPL2 := Lib.hid (places_any u HU.out (w5.drewN q))
          have HB6 := Lib.hid (below_drewN HBW.out q)
          go_wp2_with fail
          refine HPL2.out.mono ?_
          clear HPL2
          rintro e w7 ⟨⟨_, rfl, v7, rfl, how7⟩, hb7⟩
          obtain ⟨fo, fc, rfl⟩ := owns_shape how7
          have HOW7 := Lib.hid (owns_lower how7 HB6.out.size)
          have HB7 := Lib.hid (HB6.out.trans (hb7.mono HB6.out.size))
          have HPN := Lib.hid (places_len u)
          clear how7 hb7
          go_wp2_with fail
          go_roundw
          case rel => exact ⟨u + 1, places u, by go_num, by omega, HPN.out, HT, ⟨_, rfl, HOW7.out⟩, HB7.out⟩
          case measure => simp [intOf]; omega
      · have hpe : ((p : Int) == (all : Int)) = false := by rw [beq_eq_false_iff_ne]; omega
        have HK := Lib.hid (HKEEP.out (fun h => absurd h hpa))
        go_wp2_with fail
        refine HP1.out.mono ?_
        rintro e w' ⟨rfl, rfl⟩
        go_wp2_with fail
        refine HP2.out.mono ?_
        rintro e w' ⟨rfl, rfl⟩
        go_wp2_with fail
        go_roundw
        case rel => exact ⟨u + 1, b, by go_num, by omega, hb32, HK, ⟨_, rfl, HOWN.out⟩, HB.out⟩
        case measure => simp [intOf]; omega
    · obtain rfl : u = vv + 1 := by omega
      have HF := Lib.hid (show Fewest ts b from (show LInv ts (2 ^ ts.length) b from by rw [← HV1.out]; exact HIN.out).few hl12)
      clear hown hb HIN
      go_wp2_with fail
      go_ret
      exact ⟨⟨_, b, rfl, HF.out, ⟨_, rfl, HOWN.out⟩⟩, HB.out⟩
end Go.Proofs.YtoneaocjooefiaaDoor
