/- assayerlaw4.HitLeast. No conditions beyond sizes. -/
import Derived.Test.YtbgcmemndaaopaaHitA
namespace Go.Mine.Hit
theorem rise_get {m : List Nat} (h : m.Pairwise (· < ·)) {a b : Nat} (hb : b < a) (ha : a < m.length) : m.getD b 0 < m.getD a 0 := by
  have := List.pairwise_iff_getElem.1 h b a (by omega) ha hb
  simpa [ha, show b < m.length by omega] using this
theorem get_mem {m : List Nat} {a : Nat} (ha : a < m.length) : m.getD a 0 ∈ m := by simp [ha]
theorem Lst.apart {P : Nat → Prop} {m : List Nat} (h : Lst P m) {a b : Nat} (hb : b < a) (ha : a < m.length) : ¬ Sub (m.getD a 0) (m.getD b 0) ∧ ¬ Sub (m.getD b 0) (m.getD a 0) := by
  have h1 := rise_get h.1 hb ha
  have ma := (h.2 _).1 (get_mem ha)
  have mb := (h.2 _).1 (get_mem (show b < m.length by omega))
  exact ⟨fun hs => by have := mb.2 _ ma.1 hs; omega, fun hs => by have := ma.2 _ mb.1 hs; omega⟩
end Go.Mine.Hit
namespace Go.Proofs.Ytbgcmemndaaopaa
open Go.RowKit Go.Mine Go.Mine.Hit

set_option maxHeartbeats 2000000 in
set_option maxRecDepth 100000 in
theorem hitLeast_any (ts : List Nat) (i : Int) (ao : Option Addr) (c : Nat) (W : World) (hx : IntsAt .u32 W ao (cast ts)) (hn : ao = none → ts.length = 0) (hl : ts.length ≤ maxLen) :
    Calls Try.prog 5 #[.slice ao ts.length c, .int .i64 i] W fun e w' => e = .returned (.bool true) ∧ Below W.heap.size W w' := by
  have HX := Lib.hid (show ∀ w, Below W.heap.size W w → IntsAt .u32 w ao (cast ts) from fun w hb => hx.below (Nat.le_refl _) hb)
  have HN := Lib.hid (And.intro hn hl)
  have HS := Lib.hid (struck_any W)
  clear hx hn hl
  go_enter Try.func5, Try.ntmps5
  go_wp2_with fail
  refine HS.out.mono ?_
  clear HS
  rintro e w1 ⟨rfl, hb1⟩
  have HB1 := Lib.hid hb1
  have HM := Lib.hid (hLeast_any ts ao c w1 (HX.out _ hb1) HN.out.1 HN.out.2)
  clear hb1
  go_wp2_with fail
  refine HM.out.mono ?_
  clear HM
  rintro e w2 ⟨⟨hok, vm, m, rfl, hlm, hom⟩ | ⟨hno, rfl⟩, hb2⟩
  rotate_left
  · have HB2 := Lib.hid (HB1.out.trans (hb2.mono HB1.out.size))
    obtain ⟨f, hf⟩ : ∃ f, f = fault ts := ⟨_, rfl⟩
    rw [← hf]
    clear hf hno hb2
    go_wp2_with fail
    go_ret
    exact ⟨rfl, HB2.out⟩
  · obtain ⟨am, cm, rfl⟩ := owns_shape hom
    obtain ⟨wk, hwk⟩ : ∃ wk, wk = w2 := ⟨_, rfl⟩
    subst hwk
    have HB2 := Lib.hid (HB1.out.trans (hb2.mono HB1.out.size))
    have HOM := Lib.hid (IntsAt.of_owns hom)
    have HXK := Lib.hid (HX.out _ HB2.out)
    have HLM := Lib.hid hlm
    have HOK := Lib.hid hok
    have hml : m.length ≤ 20 := by have := hlm.le; have := hok.1; omega
    have htl : ts.length ≤ 20 := hok.1
    have HGL := Lib.hid (show ∀ a, m.getD a 0 < 4096 from fun a => get_lt (by decide) (fun x hx => hok.2 _ (hlm.so hx)) a)
    clear hom hlm hok hb2
    go_wp2_with fail
    go_loopw [8, 9] (fun wv av wr => ∃ (a nq : Nat) (wb : Bool), wv = .bool wb ∧ av = .int .i64 (a : Int) ∧ a ≤ m.length ∧ RowKit.Hid (wb = true ↔ ∃ j, j < a ∧ 0 ≤ i ∧ i < ts.length ∧ Sub (m.getD j 0) (ts.getD i.toNat 0)) ∧ wr = wk.drewN nq) (fun _ av _ => m.length - (intOf av).toNat)
    case atStart => exact ⟨0, 0, false, rfl, rfl, by omega, Lib.hid (by simp), (drewN_zero wk).symm⟩
    case round =>
      obtain ⟨a, nq, wb, rfl, rfl, ha, hwb, rfl⟩ := hrel
      by_cases hlt : a < m.length
      · have hlt2 : (a : Int) < (m.length : Int) := by omega
        obtain ⟨mb, mo, rfl, hca⟩ := HOM.out a (by rw [cast_len]; exact hlt)
        rw [cast_get] at hca
        have hxa := HGL.out a
        obtain ⟨x, hxd⟩ : ∃ x, x = m.getD a 0 := ⟨_, rfl⟩
        rw [← hxd] at hca hxa
        have HXD := Lib.hid hxd
        have HWB := Lib.hid hwb.out
        clear hxd hwb
        go_wp2_with fail
        go_loopw [10] (fun bv wr => ∃ (b nq : Nat), bv = .int .i64 (b : Int) ∧ b ≤ a ∧ wr = wk.drewN nq) (fun bv _ => a - (intOf bv).toNat)
        case atStart => exact ⟨0, nq, rfl, by omega, rfl⟩
        case round =>
          obtain ⟨b, nq2, rfl, hb, rfl⟩ := hrel
          by_cases hba : b < a
          · have hba2 : (b : Int) < (a : Int) := by omega
            obtain ⟨mb', mo', he, hcb⟩ := HOM.out b (by rw [cast_len]; omega)
            cases he
            rw [cast_get] at hcb
            have hyb := HGL.out b
            have hap := HLM.out.apart hba hlt
            rw [← HXD.out] at hap
            obtain ⟨y, hyd⟩ : ∃ y, y = m.getD b 0 := ⟨_, rfl⟩
            rw [← hyd] at hcb hyb hap
            have hn1 := u32_andNot_nat x y (by omega) (by omega)
            have hn2 := u32_andNot_nat y x (by omega) (by omega)
            have h1 : x &&& (4294967295 - y) ≠ 0 := fun h => hap.1 ((andn_zero (by omega) (by omega)).1 h)
            have h2 : y &&& (4294967295 - x) ≠ 0 := fun h => hap.2 ((andn_zero (by omega) (by omega)).1 h)
            obtain ⟨p, hp⟩ : ∃ p, p = x &&& (4294967295 - y) := ⟨_, rfl⟩
            obtain ⟨q, hq⟩ : ∃ q, q = y &&& (4294967295 - x) := ⟨_, rfl⟩
            rw [← hp] at hn1 h1
            rw [← hq] at hn2 h2
            have d1 : ((p : Int) == 0) = false := by rw [beq_eq_false_iff_ne]; omega
            have d2 : ((q : Int) == 0) = false := by rw [beq_eq_false_iff_ne]; omega
            have d3 : decide ((p : Int) = 0) = false := by rw [decide_eq_false_iff_not]; omega
            have d4 : decide (p = 0) = false := by rw [decide_eq_false_iff_not]; omega
            have d5 : (p == 0) = false := by rw [beq_eq_false_iff_ne]; omega
            have hbm : (b : Int) < (m.length : Int) := by omega
            clear hap hyd hp hq
            go_wp2_with fail
            go_quiet (fail)
            go_wp2_with fail
            go_roundw
            case rel => exact ⟨b + 1, _, by go_num, by omega, rfl⟩
            case measure => simp [intOf]; omega
          · obtain rfl : b = a := by omega
            by_cases hin : 0 ≤ i ∧ i < ts.length
            · obtain ⟨q, rfl⟩ : ∃ q : Nat, i = q := ⟨i.toNat, by omega⟩
              have hq : q < ts.length := by omega
              obtain ⟨tb, tf, rfl, hct⟩ := HXK.out q (by rw [cast_len]; exact hq)
              rw [cast_get] at hct
              have hzt := HOK.out.2 _ (get_mem hq)
              have hn1 := u32_andNot_nat x (ts.getD q 0) (by omega) (by omega)
              have hsub := andn_zero (a := x) (b := ts.getD q 0) (by omega) (by omega)
              obtain ⟨p, hp⟩ : ∃ p, p = x &&& (4294967295 - ts.getD q 0) := ⟨_, rfl⟩
              rw [← hp] at hn1 hsub
              have HNW := Lib.hid (show ∀ r : Bool, (r = true ↔ wb = true ∨ p = 0) → (r = true ↔ ∃ j, j < b + 1 ∧ (0 : Int) ≤ (q : Int) ∧ (q : Int) < ts.length ∧ Sub (m.getD j 0) (ts.getD (q : Int).toNat 0)) from fun r hr => by
                rw [hr, HWB.out, hsub, HXD.out, Int.toNat_natCast]
                constructor
                · rintro (⟨j, hj, h⟩ | h)
                  · exact ⟨j, by omega, h⟩
                  · exact ⟨b, by omega, by omega, by omega, h⟩
                · rintro ⟨j, hj, h3, h4, h⟩
                  by_cases e : j = b
                  · subst e; exact .inr h
                  · exact .inl ⟨j, by omega, h3, h4, h⟩)
              obtain ⟨z, hz⟩ : ∃ z, z = ts.getD q 0 := ⟨_, rfl⟩
              rw [← hz] at hct hn1 hzt
              have hq0 : (0 : Int) ≤ (q : Int) := by omega
              have hq1 : (q : Int) < (ts.length : Int) := by omega
              clear hsub hp HWB hz
              cases wb
              · by_cases hp0 : p = 0
                · subst hp0
                  have hd : (((0 : Nat) : Int) == 0) = true := by decide
                  go_wp2_with fail
                  go_quiet (fail)
                  go_wp2_with fail
                  go_roundw
                  case rel => exact ⟨b + 1, _, true, rfl, by go_num, by omega, Lib.hid (HNW.out true (by simp)), rfl⟩
                  case measure => simp [intOf]; omega
                · have hd : ((p : Int) == 0) = false := by rw [beq_eq_false_iff_ne]; omega
                  have hd2 : decide ((p : Int) = 0) = false := by rw [decide_eq_false_iff_not]; omega
                  have hd3 : (p == 0) = false := by rw [beq_eq_false_iff_ne]; omega
                  go_wp2_with fail
                  go_quiet (fail)
                  go_wp2_with fail
                  go_roundw
                  case rel => exact ⟨b + 1, _, false, rfl, by go_num, by omega, Lib.hid (HNW.out false (by simp [hp0])), rfl⟩
                  case measure => simp [intOf]; omega
              · go_wp2_with fail
                go_quiet (fail)
                go_wp2_with fail
                go_roundw
                case rel => exact ⟨b + 1, _, true, rfl, by go_num, by omega, Lib.hid (HNW.out true (by simp)), rfl⟩
                case measure => simp [intOf]; omega
            · have hwf : wb = false := by
                cases wb
                · rfl
                · obtain ⟨j, _, h1, h2, _⟩ := HWB.out.1 rfl
                  exact absurd ⟨h1, h2⟩ hin
              subst hwf
              have HNW := Lib.hid (show (false = true ↔ ∃ j, j < b + 1 ∧ (0 : Int) ≤ i ∧ i < ts.length ∧ Sub (m.getD j 0) (ts.getD i.toNat 0)) from ⟨fun h => by (cases h), fun ⟨j, _, h1, h2, _⟩ => absurd ⟨h1, h2⟩ hin⟩)
              clear HWB
              by_cases hi0 : 0 ≤ i
              · have hi1 : ¬ i < (ts.length : Int) := fun h => hin ⟨hi0, h⟩
                have hd1 : decide (0 ≤ i) = true := decide_eq_true hi0
                have hd2 : decide (i < (ts.length : Int)) = false := decide_eq_false hi1
                go_wp2_with fail
                go_quiet (fail)
                go_wp2_with fail
                go_roundw
                case rel => exact ⟨b + 1, _, false, rfl, by go_num, by omega, HNW, rfl⟩
                case measure => simp [intOf]; omega
              · have hd1 : decide (0 ≤ i) = false := decide_eq_false hi0
                go_wp2_with fail
                go_quiet (fail)
                go_wp2_with fail
                go_roundw
                case rel => exact ⟨b + 1, _, false, rfl, by go_num, by omega, HNW, rfl⟩
                case measure => simp [intOf]; omega
      · obtain rfl : a = m.length := by omega
        have HB3 := Lib.hid (below_drewN HB2.out nq)
        have HEND := Lib.hid (show i < 0 ∨ (ts.length : Int) ≤ i ∨ wb = true by
          by_cases h1 : i < 0
          · exact .inl h1
          · by_cases h2 : (ts.length : Int) ≤ i
            · exact .inr (.inl h2)
            · refine .inr (.inr (hwb.out.2 ?_))
              obtain ⟨t, ht, hs⟩ := least_under (P := (· ∈ ts)) (get_mem (show i.toNat < ts.length by omega))
              obtain ⟨j, hj, rfl⟩ := List.mem_iff_getElem.1 ((HLM.out.2 t).2 ht)
              exact ⟨j, hj, by omega, by omega, by simpa [hj] using hs⟩)
        clear hwb
        by_cases h1 : i < 0
        · have hd1 : decide (i < 0) = true := decide_eq_true h1
          go_wp2_with fail
          go_ret
          exact ⟨by simp, HB3.out⟩
        · have hd1 : decide (i < 0) = false := decide_eq_false h1
          by_cases h2 : (ts.length : Int) ≤ i
          · have hd2 : decide ((ts.length : Int) ≤ i) = true := decide_eq_true h2
            go_wp2_with fail
            go_ret
            exact ⟨by simp, HB3.out⟩
          · have hd2 : decide ((ts.length : Int) ≤ i) = false := decide_eq_false h2
            have hwt : wb = true := by rcases HEND.out with h | h | h; exact absurd h h1; exact absurd h h2; exact h
            subst hwt
            go_wp2_with fail
            go_ret
            exact ⟨by simp, HB3.out⟩
end Go.Proofs.Ytbgcmemndaaopaa
