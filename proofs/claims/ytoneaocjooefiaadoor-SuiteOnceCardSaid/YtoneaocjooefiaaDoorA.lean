/- SuiteEnough's walk. CONDITION: math/bits.deBruijn64tab holds what start-up lays there. -/
import Derived.Test.YtoneaocjooefiaaDoorSuite9
namespace Go.Proofs.YtoneaocjooefiaaDoor
open Go.RowKit Go.Mine Go.Mine.Suite

theorem i64_and4095 (n : Int) : bits .and .i64 n 4095 = n % 4096 := by
  have h : (BitVec.ofInt 64 4095).toNat = 2 ^ 12 - 1 := by decide
  have key : (BitVec.ofInt 64 n &&& BitVec.ofInt 64 4095).toNat = (n % ((2 ^ 64 : Nat) : Int)).toNat % 2 ^ 12 := by
    rw [BitVec.toNat_and, BitVec.toNat_ofInt, h, Nat.and_two_pow_sub_one_eq_mod]
  show IntKind.i64.wrap ((BitVec.ofInt 64 n &&& BitVec.ofInt 64 4095).toNat : Nat) = n % 4096
  rw [key, IntKind.wrap_i64]
  omega
theorem i64_and_nat (a b : Nat) (ha : a < 4096) (hb : b < 4096) : bits .and .i64 (a : Int) (b : Int) = ((a &&& b : Nat) : Int) := by
  have hx : a &&& b ≤ a := Nat.and_le_left
  have h1 : (BitVec.ofInt 64 (a : Int)).toNat = a := by rw [BitVec.ofInt_natCast, BitVec.toNat_ofNat]; exact Nat.mod_eq_of_lt (by omega)
  have h2 : (BitVec.ofInt 64 (b : Int)).toNat = b := by rw [BitVec.ofInt_natCast, BitVec.toNat_ofNat]; exact Nat.mod_eq_of_lt (by omega)
  show IntKind.i64.wrap ((BitVec.ofInt 64 (a : Int) &&& BitVec.ofInt 64 (b : Int)).toNat : Int) = _
  rw [BitVec.toNat_and, h1, h2, IntKind.wrap_i64]
  omega
theorem shl64 : ∀ n, n < 13 → wrap64 ((2 : Int) ^ n) = ((2 ^ n : Nat) : Int) := by decide +kernel
theorem pow_small : ∀ n, n < 13 → 1 ≤ 2 ^ n ∧ 2 ^ n ≤ 4096 := by decide +kernel
theorem mask_and (u n : Nat) (hu : u < 4096) (hn : n ≤ 12) : bits .and .i64 (u : Int) (wrap64 (((2 ^ n : Nat) : Int) - 1)) = ((u % 2 ^ n : Nat) : Int) ∧ u % 2 ^ n < 4096 := by
  obtain ⟨h1, h2⟩ := pow_small n (by omega)
  have hm := Nat.mod_le u (2 ^ n)
  refine ⟨?_, by omega⟩
  rw [← Nat.and_two_pow_sub_one_eq_mod]
  generalize 2 ^ n = B at h1 h2
  rw [show wrap64 (((B : Nat) : Int) - 1) = ((B - 1 : Nat) : Int) by unfold wrap64; omega]
  exact i64_and_nat u (B - 1) hu (by omega)
/-- All tests. -/
theorem pass_all {ts : List Nat} (hl : ts.length ≤ 12) : passN ts 4095 ts.length = orAll ts := by
  refine Nat.eq_of_testBit_eq fun j => ?_
  rw [passN_bit, orAll_bit, Bool.eq_iff_iff, List.any_eq_true, List.any_eq_true]
  have h4095 : ∀ i, i < 12 → (4095 : Nat).testBit i = true := by decide
  constructor
  · rintro ⟨i, hi, h⟩
    have hi := List.mem_range.1 hi
    rw [Bool.and_eq_true, show ts.getD i 0 = ts[i] by simp [hi]] at h
    exact ⟨ts[i], List.getElem_mem hi, h.2⟩
  · rintro ⟨t, ht, h⟩
    obtain ⟨i, hi, rfl⟩ := List.mem_iff_getElem.1 ht
    refine ⟨i, List.mem_range.2 hi, ?_⟩
    rw [h4095 i (by omega), show ts.getD i 0 = ts[i] by simp [hi], h]; rfl
theorem sub_eq {ts l : List Nat} : Sub (orAll ts) (orAt ts l) ↔ orAt ts l = orAll ts := by
  constructor
  · intro h
    refine Nat.eq_of_testBit_eq fun i => ?_
    rw [Bool.eq_iff_iff]
    exact ⟨fun h' => orAt_sub h', fun h' => h i h'⟩
  · intro h; rw [h]; exact fun i hi => hi

/-- The two lists that suite tells. -/
structure Told2 (n : Int) (ts : List Nat) (l b : List Nat) : Prop where
  sok : sok n ts
  gr : Gr ts (orAll ts) l
  few : Fewest ts b
theorem told_len {n : Int} {ts l b : List Nat} (hts : ∀ t ∈ ts, t < 4294967296) (h : Told2 n ts l b) : b.length ≤ l.length ∧ l.length ≤ 12 ∧ orAt ts l = orAll ts ∧ orAt ts b = orAll ts := by
  have h1 := h.few.le_gr hts h.gr
  have h2 := nodup_le (h.gr.nodup hts (orAll_lt hts) (fun i hi => hi)) (l := List.range ts.length) (fun i hi => List.mem_range.2 (h.gr.lt i hi))
  rw [List.length_range] at h2
  exact ⟨h1, by have := h.sok.2.2.1; omega, sub_eq.1 (h.gr.covers hts (orAll_lt hts)), sub_eq.1 h.few.enough⟩

set_option maxHeartbeats 4000000 in
set_option maxRecDepth 100000 in
theorem enough_walk (n which : Int) (ts : List Nat) (ao : Option Addr) (c : Nat) (W : World) (hx : IntsAt .u32 W ao (cast ts)) (h32 : ∀ t ∈ ts, t < 4294967296) (hl : ts.length ≤ maxLen) (hT : Tab W) :
    Calls Tryd.prog 3 #[.int .i64 n, .slice ao ts.length c, .int .i64 which] W fun e w' => e = .returned (.bool true) ∧ Below W.heap.size W w' := by
  have HX := Lib.hid (show ∀ w, Below W.heap.size W w → IntsAt .u32 w ao (cast ts) from fun w hb => hx.below (Nat.le_refl _) hb)
  have HT := Lib.hid (show ∀ w, Below W.heap.size W w → Tab w from fun w hb => hT.on hb)
  have H32 := Lib.hid h32
  have HL := Lib.hid hl
  have HS := Lib.hid (suited_any W hT)
  clear hx h32 hl hT
  go_enter Tryd.func3, Tryd.ntmps3
  go_wp2_with fail
  refine HS.out.mono ?_
  rintro e w1 ⟨rfl, hb1⟩
  have HB1 := Lib.hid hb1
  have HGR := Lib.hid (greedy_any n ts ao c w1 (HX.out _ hb1) H32.out HL.out (HT.out _ hb1))
  clear hb1
  go_wp2_with fail
  refine HGR.out.mono ?_
  rintro e w2 ⟨hp, hb2⟩
  have hb2' := HB1.out.trans (hb2.mono HB1.out.size)
  have HB2 := Lib.hid hb2'
  have HLE := Lib.hid (least_any n ts ao c w2 (HX.out _ hb2') H32.out HL.out (HT.out _ hb2'))
  clear hb2 hb2' HGR
  rcases hp with ⟨hno, rfl⟩ | ⟨hok, v, l, rfl, hgr, v', rfl, how⟩
  · have HNO := Lib.hid hno
    clear hno
    go_wp2_with fail
    refine HLE.out.mono ?_
    rintro e w3 ⟨hp, hb3⟩
    have HB3 := Lib.hid (HB2.out.trans (hb3.mono HB2.out.size))
    clear hb3
    rcases hp with ⟨_, rfl⟩ | ⟨hok, _⟩
    · go_wp2_with fail
      go_ret
      exact ⟨by simp, HB3.out⟩
    · exact absurd hok HNO.out
  · have HOK := Lib.hid hok
    have HG := Lib.hid hgr
    obtain ⟨lo, lc, rfl⟩ := owns_shape how
    have HOW := Lib.hid how
    clear hok hgr how
    rw [cast_len]
    go_wp2_with fail
    refine HLE.out.mono ?_
    rintro e w3 ⟨hp, hb3⟩
    rcases hp with ⟨hno, _⟩ | ⟨_, v, b, rfl, hfew, v', rfl, how⟩
    · exact absurd HOK.out hno
    · have HTO := Lib.hid (show Told2 n ts l b from ⟨HOK.out, HG.out, hfew⟩)
      have hb3' := HB2.out.trans (hb3.mono HB2.out.size)
      obtain ⟨bo, bc, rfl⟩ := owns_shape how
      have HIL := Lib.hid (show IntsAt .i64 w3 lo (cast l) from (IntsAt.of_owns HOW.out).below (Nat.le_refl _) hb3)
      have HIB := Lib.hid (show IntsAt .i64 w3 bo (cast b) from IntsAt.of_owns how)
      have HB3 := Lib.hid hb3'
      have hl12 := HOK.out.2.2.1
      obtain ⟨hbl, hl12', hol, hob⟩ := told_len H32.out HTO.out
      have HIX := HX.out w3 hb3'
      have HPA := Lib.hid (show Calls Tryd.prog 10 #[.slice ao ts.length c, .int .i64 4095] w3 (fun e w' => e = .returned (.int .u32 (orAll ts)) ∧ w3 = w') from by
        have := qpassed_any ts 4095 (by omega) ao c w3 HIX H32.out hl12
        rw [pass_all hl12] at this
        exact this)
      have HLL := Lib.hid (show Calls Tryd.prog 11 #[.slice ao ts.length c, .slice lo l.length lc] w3 (fun e w' => e = .returned (.tuple #[.int .u32 (orAll ts), .bool true]) ∧ w3 = w') from by
        have := lines_any ts l ao lo c lc w3 HIX HIL.out H32.out hl12 (by omega) HTO.out.gr.lt
        rw [hol] at this
        exact this)
      have HLB := Lib.hid (show Calls Tryd.prog 11 #[.slice ao ts.length c, .slice bo b.length bc] w3 (fun e w' => e = .returned (.tuple #[.int .u32 (orAll ts), .bool true]) ∧ w3 = w') from by
        have := lines_any ts b ao bo c bc w3 HIX HIB.out H32.out hl12 (by omega) HTO.out.few.lt
        rw [hob] at this
        exact this)
      obtain ⟨u, hu⟩ : ∃ u : Nat, which % 4096 = u := ⟨(which % 4096).toNat, by omega⟩
      have hu4 : u < 4096 := by omega
      have hand := i64_and4095 which
      rw [hu] at hand
      have HPU := Lib.hid (qpassed_any ts u (by omega) ao c w3 HIX H32.out hl12)
      have HLEAST := Lib.hid (show passN ts u ts.length = orAll ts → b.length ≤ (places (u % 2 ^ ts.length)).length from fun h => by
        rw [passN_at (by omega)] at h
        exact (HTO.out.few.least _ (places_rise _) places_lt (sub_eq.2 h)).1)
      obtain ⟨p, hp⟩ : ∃ p, p = passN ts u ts.length := ⟨_, rfl⟩
      rw [← hp] at HPU HLEAST
      obtain ⟨all, hall⟩ : ∃ all, all = orAll ts := ⟨_, rfl⟩
      rw [← hall] at HPA HLL HLB HLEAST
      have hs := shl64 ts.length (by omega)
      obtain ⟨hand2, hum4⟩ := mask_and u ts.length hu4 hl12
      have hum : u % 2 ^ ts.length < 4294967296 := Nat.lt_trans hum4 (by decide)
      have HPL := Lib.hid (places_any (u % 2 ^ ts.length) hum w3)
      have HPLEN := Lib.hid (show (cast (places (u % 2 ^ ts.length))).length = (places (u % 2 ^ ts.length)).length from cast_len _)
      obtain ⟨um, hume⟩ : ∃ um, um = u % 2 ^ ts.length := ⟨_, rfl⟩
      rw [← hume] at hand2 HPL HPLEN HLEAST
      obtain ⟨B, hB⟩ : ∃ B, B = 2 ^ ts.length := ⟨_, rfl⟩
      rw [← hB] at hs hand2
      have hna : ((all : Int) != (all : Int)) = false := by simp
      have hd : decide (l.length < b.length) = false := by rw [decide_eq_false_iff_not]; omega
      clear how hfew hb3 hb3' HIX hol hob hu hp hall hum hum4 hume hB HLE HOW
      rw [cast_len]
      go_wp2_with fail
      refine HPA.out.mono ?_
      rintro e w' ⟨rfl, rfl⟩
      go_wp2_with fail
      refine HLL.out.mono ?_
      rintro e w' ⟨rfl, rfl⟩
      go_wp2_with fail
      refine HLB.out.mono ?_
      rintro e w' ⟨rfl, rfl⟩
      go_wp2_with fail
      refine HPU.out.mono ?_
      rintro e w' ⟨rfl, rfl⟩
      by_cases hpe : p = all
      · have hlp := HLEAST.out hpe
        subst hpe
        have hne : ((p : Int) != (p : Int)) = false := by simp
        go_wp2_with fail
        try rw [hand2]
        refine HPL.out.mono ?_
        clear HPL
        rintro e w4 ⟨⟨pv, rfl, pv', rfl, how⟩, hb4⟩
        obtain ⟨po, pc, rfl⟩ := owns_shape how
        have HB4 := Lib.hid (HB3.out.trans (hb4.mono HB3.out.size))
        rw [← HPLEN.out] at hlp
        obtain ⟨pl, hpl⟩ : ∃ pl, pl = (cast (places um)).length := ⟨_, rfl⟩
        rw [← hpl] at hlp ⊢
        have hd3 : decide (b.length ≤ pl) = true := by rw [decide_eq_true_iff]; exact hlp
        clear hb4 how hpl
        go_wp2_with fail
        go_ret
        exact ⟨by simp, HB4.out⟩
      · have hne : ((p : Int) != (all : Int)) = true := by rw [bne_iff_ne]; omega
        go_wp2_with fail
        go_ret
        exact ⟨by simp, HB3.out⟩
end Go.Proofs.YtoneaocjooefiaaDoor
