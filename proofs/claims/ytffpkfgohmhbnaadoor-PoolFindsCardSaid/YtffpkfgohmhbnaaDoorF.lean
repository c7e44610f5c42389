/- PoolFinds' walk. -/
import Derived.Test.YtffpkfgohmhbnaaDoorE
namespace Go.Proofs.YtffpkfgohmhbnaaDoor
open Go.RowKit Go.Mine

/-- A row of numbers of the call's own, by whatever name. -/
def OwnIs (w : World) (base : Nat) (v0 : Value) (xs : List Int) : Prop := ∃ v, v = v0 ∧ w.ownsRow base 3 1 v xs.length (xs.map (Value.int .i64))
theorem below_drewN {B : Nat} {w w' : World} (h : Below B w w') (n : Nat) : Below B w (w'.drewN n) := ⟨h.os, h.tape, h.output, h.size, h.block⟩

theorem wrap_le (k P : Nat) (h1 : k ≤ 1 + 2 * P) (h2 : P ≤ 1000 * 10) : (k : Int) ≤ wrap64 (1 + wrap64 (2 * (P : Int))) := by
  unfold wrap64
  omega

set_option maxHeartbeats 2000000 in
set_option maxRecDepth 100000 in
theorem finds_walk (n : Int) (so : List Int) (sa : Option Addr) (sc : Nat) (W : World) (hg : Laid W) (hx : IntsAt .i64 W sa so) (hl : so.length ≤ maxLen) :
    Calls Tryd.prog 3 #[.int .i64 n, .slice sa so.length sc] W fun e w' => e = .returned (.bool true) ∧ Below W.heap.size W w' := by
  obtain ⟨i0, hi0, hz0, hz1, hz2⟩ := info_parts info3
  have HG := Lib.hid hg
  have HX := Lib.hid hx
  have HL := Lib.hid hl
  clear hg hx hl
  obtain ⟨w0, hw0⟩ : ∃ w0, w0 = (((W.alloc (.cells #[.int .i64 n] 3)).alloc (.cells #[.slice sa so.length sc] 22)).alloc (.cells #[.int .i64 0] 3)).alloc (.cells #[.bool true] 4) := ⟨_, rfl⟩
  have HW0 := Lib.hid hw0
  have HS0 := Lib.hid (show w0.heap.size = W.heap.size + 4 by rw [hw0]; simp)
  have HJ0 := Lib.hid (show JF W n so sa sc 0 w0 from by
    rw [hw0]
    refine ⟨?_, ?_, ?_, ?_, ?_, ?_, by simp, (((((Below.refl _ _).alloc (Nat.le_refl _) _).alloc (by simp) _).alloc (by simp; omega) _).alloc (by simp; omega) _)⟩ <;> simp [go_sem])
  clear hw0
  by_cases hr : n < 0 ∨ 1000 < n
  · have HR := Lib.hid hr
    have hcs := hr
    clear hr
    go_enter Tryd.func3, Tryd.ntmps3
    go_wp2_with fail
    rw [← HW0.out]
    refine (find_bad n 5 _ w0 HR.out).mono ?_
    rintro e w1 ⟨rfl, hb1⟩
    have HB1 := Lib.hid (show Below w0.heap.size w0 w1 from by rw [hb1]; exact (Below.refl _ _).alloc (Nat.le_refl _) _)
    clear hb1
    go_wp2_with fail
    refine (fact_any w1).mono ?_
    rintro e w2 ⟨g, cap, rfl, hc, hb2⟩
    have hj2 := (HJ0.out.on (Nat.le_of_eq HS0.out.symm) HB1.out).on (Nat.le_trans (Nat.le_of_eq HS0.out.symm) HB1.out.size) hb2
    obtain ⟨c1, c2, c3, c4, f1, f2, hs, hb⟩ := hj2
    have HB := Lib.hid hb
    clear hb hb2 f1 f2 c2 c4
    rcases hcs with h | h
    · have hd : decide (n < 0) = true := by rw [decide_eq_true_iff]; exact h
      go_wp2_with fail
      refine (error_is _ 1 1 (.inr rfl) w2 (HG.out.below HB.out)).mono ?_
      rintro e w3 ⟨rfl, hb3⟩
      have HB3 := Lib.hid (HB.out.trans (hb3.mono HB.out.size))
      have c3' := (hb3.cell (World.block_lt_of_cell? _ _ c3)).trans c3
      clear hb3 c1 c3 hc
      go_wp2_with fail
      go_ret
      exact ⟨by simp, HB3.out⟩
    · have hd : decide (n < 0) = false := by rw [decide_eq_false_iff_not]; omega
      have hd2 : decide (1000 < n) = true := by rw [decide_eq_true_iff]; exact h
      go_wp2_with fail
      refine (error_is _ 1 1 (.inr rfl) w2 (HG.out.below HB.out)).mono ?_
      rintro e w3 ⟨rfl, hb3⟩
      have HB3 := Lib.hid (HB.out.trans (hb3.mono HB.out.size))
      have c3' := (hb3.cell (World.block_lt_of_cell? _ _ c3)).trans c3
      clear hb3 c1 c3 hc
      go_wp2_with fail
      go_ret
      exact ⟨by simp, HB3.out⟩
  · obtain ⟨m, rfl⟩ : ∃ m : Nat, n = m := ⟨n.toNat, by omega⟩
    have hm : m ≤ 1000 := by omega
    clear hr
    have HF := Lib.hid (find_any 5 #[.pointer (some ⟨W.heap.size + 1 + 1, 0, none⟩), .pointer (some ⟨W.heap.size + 1 + 1 + 1, 0, none⟩), .pointer (some ⟨W.heap.size, 0, none⟩), .pointer (some ⟨W.heap.size + 1, 0, none⟩)] m hm (fun k w => JF W m so sa sc k w) (Tru so) w0 HJ0.out
      (fun k w w' h hb => h.on (Nat.le_of_eq HS0.out.symm) hb) (fun a b w => run5 a b _ _ _ _ w)
      (fun a b k w h0 hab hbn hk hj => (asked_any W m a b so sa sc k h0 hab hbn (by omega) HX.out HL.out w hj).mono fun e w' ⟨c, h1, h2, h3, h4⟩ => ⟨c, h1, h2, h3, by rw [HS0.out]; exact h4⟩))
    go_enter Tryd.func3, Tryd.ntmps3
    go_wp2_with fail
    rw [← HW0.out]
    refine HF.out.mono ?_
    clear HF
    rintro e w1 ⟨v, L, k, rfl, hlk, hj1, ho1, hs1⟩
    have HLK := Lib.hid hlk
    have HJ1 := Lib.hid hj1
    have HO1 := Lib.hid ho1
    have hk2 := hlk.count (by omega)
    have hsz1 := hj1.size
    clear hlk hj1 ho1 hs1
    go_wp2_with fail
    refine (fact_any w1).mono ?_
    rintro e w2 ⟨g, cap, rfl, hc, hb2⟩
    have HJ2 := Lib.hid (HJ1.out.on hsz1 hb2)
    have HO2 := Lib.hid (owns_below HO1.out hb2)
    obtain ⟨c1, c2, c3, c4, f1, f2, hs, hb⟩ := id HJ2.out
    clear hb2 f1 f2 hs hb HJ1 HO1
    have hd : decide ((m : Int) < 0) = false := by rw [decide_eq_false_iff_not]; omega
    have hd2 : decide (1000 < (m : Int)) = false := by rw [decide_eq_false_iff_not]; omega
    have hsz2 := HJ2.out.size
    go_wp2_with fail
    clear hd hd2 hc
    go_loopw [12, 13] (fun v0 iv wr => ∃ (i : Nat) (ws : List Int), iv = .int .i64 i ∧ i ≤ m ∧ ws.length ≤ i ∧ RowKit.Hid (Fnd so i ws) ∧ OwnIs wr w2.heap.size v0 ws ∧ Below w2.heap.size w2 wr) (fun _ iv _ => m - (intOf iv).toNat)
    case atStart => exact ⟨0, [], rfl, by omega, by simp, Lib.hid (Fnd.start so), ⟨_, rfl, World.ownsRow_nil _ _ _ _⟩, Below.refl _ _⟩
    case round =>
      obtain ⟨i, ws, rfl, hi, hwl, hfn, ⟨vw, rfl, ho⟩, hb⟩ := hrel
      have HO := Lib.hid ho
      have HB := Lib.hid hb
      have hsr := hb.size
      have c1' := (hb.cell (World.block_lt_of_cell? _ _ c1)).trans c1
      have c2' := (hb.cell (World.block_lt_of_cell? _ _ c2)).trans c2
      clear ho
      by_cases hlt : i < m
      · have HIN := Lib.hid (In_any so i sa sc wr ((HX.out.below (Nat.le_refl _) HJ2.out.below).below (Nat.le_refl _) hb) HL.out)
        clear hb c1 c2 c3 c4
        by_cases hin : (i : Int) ∈ so
        · have hdi : decide ((i : Int) ∈ so) = true := by rw [decide_eq_true_iff]; exact hin
          rw [hdi] at HIN
          have HFN := Lib.hid (hfn.out.push (by omega) hin)
          have HEM := Lib.hid (show ws.map (Value.int .i64) ++ [.int .i64 i] = (ws ++ [(i : Int)]).map (Value.int .i64) by simp)
          have HEL := Lib.hid (show ws.length + 1 = (ws ++ [(i : Int)]).length by simp)
          clear hin hdi hfn
          go_wp2_with fail
          refine HIN.out.mono ?_
          rintro e w' ⟨rfl, rfl⟩
          go_wp2_with (at_builtin; refine wpList_push _ rfl _ _ 22 rfl w2.heap.size 3 i0 (.int .i64 0) 1 8 Tryd.underlying22 hi0 hz0 hz1 hz2 rfl (by decide) _ _ _ rfl (HO.out.alloc _) ⟨wr.heap.size, 0, none⟩ 1 [.int .i64 i] rfl rfl (cell_one_new _ _ _) (one1 _ _) (by unfold maxLen; omega) (by omega) (by simp; omega) ?_)
          intro g cap w7 ho7 hg7
          have hb7 := (HB.out.alloc hsr (.cells #[.int .i64 i] 3)).grown hg7 (by simp; omega) (fun k hk => (HO.out.lt k hk).1)
          rw [HEM.out, HEL.out] at ho7
          have HO7 := Lib.hid ho7
          have HB7 := Lib.hid hb7
          have hel : (ws ++ [(i : Int)]).length ≤ i + 1 := by simp; omega
          clear ho7 hb7 hg7
          go_wp2_with fail
          go_roundw
          case rel => exact ⟨i + 1, ws ++ [(i : Int)], by go_num, by omega, hel, HFN, ⟨_, rfl, by rw [← HEL.out] at HO7 ⊢; exact HO7.out⟩, HB7.out⟩
          case measure => simp [intOf]; omega
        · have hdi : decide ((i : Int) ∈ so) = false := by rw [decide_eq_false_iff_not]; exact hin
          rw [hdi] at HIN
          have HFN := Lib.hid (hfn.out.skip hin)
          clear hin hdi hfn
          go_wp2_with fail
          refine HIN.out.mono ?_
          rintro e w' ⟨rfl, rfl⟩
          go_wp2_with fail
          go_roundw
          case rel => exact ⟨i + 1, ws, by go_num, by omega, by omega, HFN, ⟨_, rfl, HO.out⟩, HB.out⟩
          case measure => simp [intOf]; omega
      · obtain rfl : m = i := by omega
        obtain ⟨ao, ac, rfl⟩ := owns_shape HO.out
        have hj3 := HJ2.out.on hsz2 hb
        have c3' := hj3.asks
        have c4' := hj3.within
        have HEQ := Lib.hid (found HLK.out hfn.out)
        have HSI := Lib.hid (show ∃ lo lc, v = .slice lo L.length lc ∧ IntsAt .i64 wr lo L from by
          obtain ⟨lo, lc, rfl⟩ := owns_shape HO2.out
          exact ⟨lo, lc, rfl, (IntsAt.of_owns HO2.out).below (Nat.le_refl _) hb⟩)
        have HBW := Lib.hid hj3.below
        have HIW := Lib.hid (IntsAt.of_owns HO.out)
        clear hb hj3 c1 c2 c3 c4 hlt hi hfn hsr HO2
        go_wp2_with fail
        go_loop [14, 15] (fun cv xv => ∃ c x : Nat, cv = .int .i64 c ∧ xv = .int .i64 x ∧ RowKit.Hid (c ≤ 10 ∧ x * 2 ^ c ≤ m ∧ m < (x + 1) * 2 ^ c) ∧ c ≤ 10 ∧ x ≤ 1000) (fun _ xv => (intOf xv).toNat)
        case atStart => exact ⟨0, m, rfl, rfl, Lib.hid ⟨by omega, by omega, by omega⟩, by omega, by omega⟩
        case round =>
          obtain ⟨c, x, rfl, rfl, hcx, hc10, hx1000⟩ := hrel
          by_cases hx0 : 0 < x
          · have hc9 : c ≤ 9 := by
              rcases Nat.lt_or_ge c 10 with h | h
              · omega
              · have h1 : 2 ^ 10 ≤ 2 ^ c := Nat.pow_le_pow_right (by omega) h
                have h2 : 1 * 2 ^ c ≤ x * 2 ^ c := Nat.mul_le_mul_right _ hx0
                have := hcx.out.2.1
                omega
            have HN := Lib.hid (show c + 1 ≤ 10 ∧ x / 2 * 2 ^ (c + 1) ≤ m ∧ m < (x / 2 + 1) * 2 ^ (c + 1) from by
              refine ⟨by omega, ?_, half_pow hcx.out.2.2⟩
              have h1 : x / 2 * 2 ^ (c + 1) = (x / 2 * 2) * 2 ^ c := by rw [Nat.pow_succ, Nat.mul_comm (2 ^ c) 2, ← Nat.mul_assoc]
              have h2 : (x / 2 * 2) * 2 ^ c ≤ x * 2 ^ c := Nat.mul_le_mul_right _ (by omega)
              have := hcx.out.2.1
              omega)
            clear hcx
            go_wp2_with fail
            go_round
            case rel => exact ⟨c + 1, x / 2, by go_num, by first | rfl | (congr 1; omega) | simp, HN, by omega, by omega⟩
            case measure => simp [intOf]; omega
          · obtain rfl : x = 0 := by omega
            have hfew := HLK.out.few (by omega) (by omega) c (by have := hcx.out.2.2; simp at this; omega)
            obtain ⟨lo, lc, rfl, hil⟩ := HSI.out
            have HIN := Lib.hid (show Calls Tryd.prog 9 #[.slice lo L.length lc, .slice ao ws.length ac] wr (fun e w' => e = .returned (.bool true) ∧ ∃ q, w' = wr.drewN q) from (Ints_any L ws lo ao lc ac wr hil HIW.out (by unfold maxLen; omega)).mono fun e w' ⟨h1, h2⟩ => ⟨by rw [h1, HEQ.out]; simp, h2⟩)
            rw [HEQ.out] at hfew
            have hp : ws.length * c ≤ 1000 * 10 := Nat.mul_le_mul (by omega) (by omega)
            have HFEW := Lib.hid hfew
            have HP := Lib.hid hp
            clear hfew hp hil hcx
            go_wp2_with fail
            refine HIN.out.mono ?_
            rintro e w' ⟨rfl, q, rfl⟩
            have c3'' : (wr.drewN q).cell? ⟨W.heap.size + 1 + 1, 0, none⟩ = some (.int .i64 k) := c3'
            have c4'' : (wr.drewN q).cell? ⟨W.heap.size + 1 + 1 + 1, 0, none⟩ = some (.bool true) := c4'
            clear c3' c4'
            go_wp2_with fail
            go_ret
            refine ⟨?_, below_drewN HBW.out _⟩
            have hle : (k : Int) ≤ wrap64 (1 + wrap64 (2 * (ws.length : Int) * (c : Int))) := by
              have e : (2 * (ws.length : Int) * (c : Int)) = 2 * ((ws.length * c : Nat) : Int) := by rw [Int.natCast_mul, Int.mul_assoc]
              rw [e]
              exact wrap_le k (ws.length * c) HFEW.out HP.out
            dsimp only
            simp
            exact hle
end Go.Proofs.YtffpkfgohmhbnaaDoor
