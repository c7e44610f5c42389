/- SuiteChvatal's walk. CONDITION: math/bits.deBruijn64tab holds what start-up lays there. -/
import Derived.Test.YtoneaocjooefiaaDoorA
namespace Go.Proofs.YtoneaocjooefiaaDoor
open Go.RowKit Go.Mine Go.Mine.Suite

theorem W32 : W 32 ≤ 4620913692595200 := by decide +kernel
theorem W_le {m : Nat} (h : m ≤ 32) : W m ≤ 4620913692595200 := Nat.le_trans (W_mono h) W32
theorem W_div (i : Nat) : (144403552893600 : Int).tdiv (i : Int) = ((whole / i : Nat) : Int) := by
  have : ((whole : Nat) : Int).tdiv (i : Int) = ((whole / i : Nat) : Int) := by rw [Int.ofNat_tdiv]
  exact this
theorem mul_small {a b A B : Nat} (ha : a ≤ A) (hb : b ≤ B) (h : A * B ≤ 9223372036854775807) : wrap64 ((a : Int) * (b : Int)) = ((a * b : Nat) : Int) := by
  have := Nat.mul_le_mul ha hb
  rw [← Int.natCast_mul]
  generalize a * b = p at *
  unfold wrap64
  omega
theorem chv_le {n : Int} {ts l b : List Nat} {m : Nat} (hts : ∀ t ∈ ts, t < 4294967296) (h : Told2 n ts l b) (hm : ∀ i, i < ts.length → ones (ts.getD i 0) ≤ m) : l.length * whole ≤ b.length * (W m + m) := by
  have h1 := h.gr.chvatal hts (orAll_lt hts) (fun _ h => h) h.few.lt h.few.enough
  have h2 := sumW_le (o := orAll ts) hm (c := b) h.few.lt
  rw [Nat.mul_add]
  omega

theorem small : 12 * 4620913692595232 ≤ 9223372036854775807 := by decide
theorem smallest {s m : Nat} (hs : s ≤ 4620913692595200) (hm : m ≤ 32) : s + m ≤ 4620913692595232 := by omega
theorem left_le {a P : Nat} (h : a * whole ≤ P) : decide ((a : Int) * 144403552893600 ≤ (P : Int)) = true := by
  have h' : a * 144403552893600 ≤ P := h
  rw [decide_eq_true_iff]; omega

set_option maxHeartbeats 4000000 in
set_option maxRecDepth 100000 in
theorem chvatal_walk (n : Int) (ts : List Nat) (ao : Option Addr) (c : Nat) (W : World) (hx : IntsAt .u32 W ao (cast ts)) (h32 : ∀ t ∈ ts, t < 4294967296) (hl : ts.length ≤ maxLen) (hT : Tab W) :
    Calls Tryd.prog 4 #[.int .i64 n, .slice ao ts.length c] W fun e w' => e = .returned (.bool true) ∧ Below W.heap.size W w' := by
  have HX := Lib.hid (show ∀ w, Below W.heap.size W w → IntsAt .u32 w ao (cast ts) from fun w hb => hx.below (Nat.le_refl _) hb)
  have HT := Lib.hid (show ∀ w, Below W.heap.size W w → Tab w from fun w hb => hT.on hb)
  have H32 := Lib.hid h32
  have HL := Lib.hid hl
  have HS := Lib.hid (suited_any W hT)
  clear hx h32 hl hT
  go_enter Tryd.func4, Tryd.ntmps4
  go_wp2_with fail
  refine HS.out.mono ?_
  rintro e w1 ⟨rfl, hb1⟩
  have HB1 := Lib.hid hb1
  have HGR := Lib.hid (greedy_any n ts ao c w1 (HX.out _ hb1) H32.out HL.out (HT.out _ hb1))
  clear hb1
  go_wp2_with fail
  refine HGR.out.mono ?_
  rintro e w2 ⟨hp, hb2⟩
  have hb2' := HB1.out.trans (hb2.mono HB1.out.size)
  have HB2 := Lib.hid hb2'
  have HLE := Lib.hid (least_any n ts ao c w2 (HX.out _ hb2') H32.out HL.out (HT.out _ hb2'))
  clear hb2 hb2' HGR
  rcases hp with ⟨hno, rfl⟩ | ⟨hok, v, l, rfl, hgr, v', rfl, how⟩
  · have HNO := Lib.hid hno
    clear hno
    go_wp2_with fail
    refine HLE.out.mono ?_
    rintro e w3 ⟨hp, hb3⟩
    have HB3 := Lib.hid (HB2.out.trans (hb3.mono HB2.out.size))
    clear hb3
    rcases hp with ⟨_, rfl⟩ | ⟨hok, _⟩
    · go_wp2_with fail
      go_ret
      exact ⟨by simp, HB3.out⟩
    · exact absurd hok HNO.out
  · have HOK := Lib.hid hok
    have HG := Lib.hid hgr
    obtain ⟨lo, lc, rfl⟩ := owns_shape how
    clear hok hgr how
    rw [cast_len]
    go_wp2_with fail
    refine HLE.out.mono ?_
    rintro e w3 ⟨hp, hb3⟩
    rcases hp with ⟨hno, _⟩ | ⟨_, v, b, rfl, hfew, v', rfl, how⟩
    · exact absurd HOK.out hno
    · have HTO := Lib.hid (show Told2 n ts l b from ⟨HOK.out, HG.out, hfew⟩)
      have hb3' := HB2.out.trans (hb3.mono HB2.out.size)
      obtain ⟨bo, bc, rfl⟩ := owns_shape how
      have HB3 := Lib.hid hb3'
      have hl12 := HOK.out.2.2.1
      obtain ⟨hbl, hl12', _, _⟩ := told_len H32.out HTO.out
      have HIX := Lib.hid (HX.out w3 hb3')
      clear how hfew hb3 hb3' HLE HX HT HS
      rw [cast_len]
      go_wp2_with fail
      go_loop [10, 11] (fun mv kv => ∃ k m : Nat, kv = .int .i64 k ∧ mv = .int .i64 m ∧ k ≤ ts.length ∧ m ≤ 32 ∧ RowKit.Hid (∀ i, i < k → ones (ts.getD i 0) ≤ m)) (fun _ kv => ts.length - (intOf kv).toNat)
      case atStart => exact ⟨0, 0, rfl, rfl, by omega, by omega, Lib.hid (fun i hi => by omega)⟩
      case round =>
        obtain ⟨k, m, rfl, rfl, hk, hm, HM⟩ := hrel
        by_cases hlt : k < ts.length
        · obtain ⟨ab, ob, rfl, hc⟩ := HIX.out k (by rw [cast_len]; exact hlt)
          rw [cast_get] at hc
          have ht := get_lt H32.out k
          have HO := Lib.hid (qones_any (ts.getD k 0) ht w3)
          have hole : ones (ts.getD k 0) ≤ 32 := ones_le _
          have HM2 := Lib.hid (show ∀ m', m ≤ m' → ones (ts.getD k 0) ≤ m' → ∀ i, i < k + 1 → ones (ts.getD i 0) ≤ m' from fun m' h1 h2 i hi => by
            by_cases h : i < k
            · exact Nat.le_trans (HM.out i h) h1
            · obtain rfl : i = k := by omega
              exact h2)
          obtain ⟨o, ho⟩ : ∃ o, o = ones (ts.getD k 0) := ⟨_, rfl⟩
          rw [← ho] at HO hole HM2
          obtain ⟨t, ht1⟩ : ∃ t, t = ts.getD k 0 := ⟨_, rfl⟩
          rw [← ht1] at hc HO ht
          clear ho ht1 HM
          go_wp2_with fail
          refine HO.out.mono ?_
          rintro e w' ⟨rfl, rfl⟩
          go_wp2_with fail
          go_round
          case rel =>
            by_cases hmo : m < o
            · exact ⟨k + 1, o, by go_num, by rw [if_pos hmo], by omega, by omega, Lib.hid (HM2.out o (by omega) (Nat.le_refl _))⟩
            · exact ⟨k + 1, m, by go_num, by rw [if_neg hmo], by omega, by omega, Lib.hid (HM2.out m (Nat.le_refl _) (by omega))⟩
          case measure => simp [intOf]; omega
        · obtain rfl : k = ts.length := by omega
          have hchv := chv_le H32.out HTO.out HM.out
          have HC := Lib.hid hchv
          clear hchv HM
          go_wp2_with fail
          go_loop [13, 14] (fun sv iv => ∃ i s : Nat, iv = .int .i64 i ∧ sv = .int .i64 s ∧ 1 ≤ i ∧ i ≤ m + 1 ∧ s ≤ 4620913692595200 ∧ RowKit.Hid (s = Suite.W (i - 1))) (fun _ iv => m + 1 - (intOf iv).toNat)
          case atStart => exact ⟨1, 0, rfl, rfl, by omega, by omega, by omega, Lib.hid rfl⟩
          case round =>
            obtain ⟨i, s, rfl, rfl, hi1, him, hs, hsW⟩ := hrel
            by_cases hlt : i ≤ m
            · have hdiv := W_div i
              have hW : Suite.W i = Suite.W (i - 1) + whole / i := by
                obtain ⟨j, rfl⟩ : ∃ j, i = j + 1 := ⟨i - 1, by omega⟩
                rfl
              rw [← hsW.out] at hW
              have hWl := W_le (show i ≤ 32 by omega)
              rw [hW] at hWl
              have HW := Lib.hid hW
              obtain ⟨q, hq⟩ : ∃ q, q = whole / i := ⟨_, rfl⟩
              rw [← hq] at hdiv hWl HW
              have hi0 : (i : Int) ≠ 0 := by omega
              have hib : ((i : Int) == 0) = false := by rw [beq_eq_false_iff_ne]; exact hi0
              have hql : q ≤ 4620913692595200 := by omega
              clear hq hW hsW
              go_wp2_with fail
              go_round
              case rel => exact ⟨i + 1, s + q, by go_num, by go_num, by omega, by omega, by omega, Lib.hid (by rw [Nat.add_sub_cancel, HW.out])⟩
              case measure => simp [intOf]; omega
            · obtain rfl : i = m + 1 := by omega
              have hsW' := hsW.out
              rw [Nat.add_sub_cancel] at hsW'
              have HC' := HC.out
              rw [← hsW'] at HC'
              have h2 := mul_small (a := b.length) (b := s + m) (Nat.le_trans hbl hl12') (smallest hs hm) small
              rw [Int.natCast_add] at h2
              obtain ⟨P, hP⟩ : ∃ P, P = b.length * (s + m) := ⟨_, rfl⟩
              rw [← hP] at h2 HC'
              have hd := left_le HC'
              clear hP hsW hsW' HC
              go_wp2_with fail
              go_ret
              exact ⟨by simp, HB3.out⟩
end Go.Proofs.YtoneaocjooefiaaDoor
