/- assayerref2's Makes. No conditions. -/
import Derived.Test.YtfdjnofkoegbdaaDoorGram1
import Derived.OwnWalk
namespace Go.Proofs.YtfdjnofkoegbdaaDoor
open Go.RowKit Go.Mine Go.Mine.Gram

/-- What names make, as it is read. -/
def MadeAt (w : World) (mo : Option Addr) (n L : Nat) (c : Nat → Nat → Nat → Bool) : Prop :=
  ∀ i, i < n → ∃ b o q rc, mo = some ⟨b, o, none⟩ ∧ w.cell? ⟨b, o + i, none⟩ = some (.slice (some ⟨q, 0, none⟩) L rc) ∧
    ∀ a, a < L → ∃ p cc, w.cell? ⟨q, a, none⟩ = some (.slice (some ⟨p, 0, none⟩) L cc) ∧ ∀ e, e < L → w.cell? ⟨p, e, none⟩ = some (.bool (c i a e))
def Sc (c : Nat → Nat → Nat → Bool) (i a b : Nat) : Prop := c i a b = true
theorem ints_tail {w : World} {b o : Nat} {x : Int} {xs : List Int} (h : IntsAt .i64 w (some ⟨b, o, none⟩) (x :: xs)) : IntsAt .i64 w (some ⟨b, o + 1, none⟩) xs := by
  intro j hj
  obtain ⟨b', o', h1, h2⟩ := h (j + 1) (by simpa using hj)
  simp only [Option.some.injEq, Addr.mk.injEq, and_true] at h1
  obtain ⟨rfl, rfl⟩ := h1
  rw [List.getD_cons_succ] at h2
  exact ⟨b, o + 1, rfl, by rw [show o + 1 + j = o + (j + 1) by omega]; exact h2⟩

/-- A Bool that tells if it is so. -/
def Tells (e : Ending) (p : Prop) : Prop := ∃ b, e = .returned (.bool b) ∧ (b = true ↔ p)
set_option maxHeartbeats 1000000 in
theorem makes_any (n : Nat) (c : Nat → Nat → Nat → Bool) (ws : List Int) (mo wo : Option Addr) (mc wc tu : Nat) (W : World) (hm : MadeAt W mo n (ws.length + 1) c) (hw : IntsAt .i64 W wo ws) (hn5 : n ≤ 5) (hwl : ws.length ≤ 8) (htu : tu ≤ ws.length) :
    ∀ (xs : List Int) (xo : Option Addr) (xc fr : Nat), IntsAt .i64 W xo xs → xs.length ≤ xc → xs.length ≤ 4 → (∀ x ∈ xs, -(n : Int) ≤ x ∧ x ≤ 2) → fr ≤ tu →
    Calls Tryd.prog 28 #[.slice mo n mc, .slice wo ws.length wc, .slice xo xs.length xc, .int .i64 fr, .int .i64 tu] W fun e w' => Tells e (Spn (Sc c) ws xs fr tu) ∧ W = w' := by
  have HM := Lib.hid hm
  have HW := Lib.hid hw
  clear hm hw
  intro xs
  induction xs with
  | nil =>
    intro xo xc fr hx hxc hx4 hxr hfr
    clear hx hxr
    by_cases hft : fr = tu
    · have HS := Lib.hid (show Spn (Sc c) ws [] fr tu from hft)
      have hb : ((fr : Int) == (tu : Int)) = true := by rw [beq_iff_eq]; omega
      have hl0 : (([] : List Int).length : Int) = 0 := rfl
      clear hft
      go_enter Tryd.func28, Tryd.ntmps28
      go_wp2_with fail
      go_ret
      exact ⟨⟨true, rfl, fun _ => HS.out, fun _ => rfl⟩, rfl⟩
    · have HS := Lib.hid (show ¬ Spn (Sc c) ws [] fr tu from fun h => hft h)
      have hb : ((fr : Int) == (tu : Int)) = false := by rw [beq_eq_false_iff_ne]; omega
      clear hft
      go_enter Tryd.func28, Tryd.ntmps28
      go_wp2_with fail
      go_ret
      exact ⟨⟨false, rfl, fun h => (by cases h), fun h => absurd h HS.out⟩, rfl⟩
  | cons x xs ih =>
    intro xo xc fr hx hxc hx4 hxr hfr
    obtain ⟨bx, ox, hxe, hcx⟩ := hx 0 (by simp)
    subst hxe
    rw [Nat.add_zero, List.getD_cons_zero] at hcx
    have hxx := hxr x (by simp)
    have hxl : (x :: xs).length = xs.length + 1 := by simp
    rw [hxl] at hxc hx4 ⊢
    have HT := Lib.hid (ints_tail hx)
    have HXR := Lib.hid (fun y hy => hxr y (List.mem_cons_of_mem _ hy))
    have HE0 := Lib.hid (show xc = 1 → xs = [] from fun h => List.eq_nil_of_length_eq_zero (by omega))
    have IH := Lib.hid ih
    have hl0 : (((xs.length : Int) + 1) == 0) = false := by rw [beq_eq_false_iff_ne]; omega
    clear hx hxr ih
    go_enter Tryd.func28, Tryd.ntmps28
    go_wp2_with fail
    go_loopw [12] (fun kv wr => ∃ k : Nat, kv = .int .i64 k ∧ fr ≤ k ∧ k ≤ tu + 1 ∧ RowKit.Hid (∀ j, j < k → One (Sc c) ws x fr j → ¬ Spn (Sc c) ws xs j tu) ∧ W = wr) (fun kv _ => tu + 1 - (intOf kv).toNat)
    case atStart => exact ⟨fr, rfl, by omega, by omega, Lib.hid (fun j hj h => by have := h.range; omega), rfl⟩
    case round =>
      obtain ⟨k, rfl, hk1, hk2, hall, hwr⟩ := hrel
      subst hwr
      by_cases hkt : k ≤ tu
      · have HNX := Lib.hid (show (One (Sc c) ws x fr k → ¬ Spn (Sc c) ws xs k tu) → ∀ j, j < k + 1 → One (Sc c) ws x fr j → ¬ Spn (Sc c) ws xs j tu from fun h j hj => by
          by_cases e : j = k
          · subst e; exact h
          · exact hall.out j (by omega))
        clear hall
        by_cases hx0 : 0 ≤ x
        · by_cases hke : k = fr + 1
          · obtain ⟨bw, ow, hwe, hcw⟩ := HW.out fr (by omega)
            subst hwe
            have HONE := Lib.hid (show One (Sc c) ws x fr k ↔ ws.getD fr 0 = x from ⟨fun h => by
              rcases h with ⟨_, _, _, h⟩ | ⟨h, _⟩
              · exact h
              · omega, fun h => .inl ⟨hx0, hke, by omega, h⟩⟩)
            obtain ⟨y, hy⟩ : ∃ y, y = ws.getD fr 0 := ⟨_, rfl⟩
            rw [← hy] at hcw HONE
            have hkb : ((k : Int) == (fr : Int) + 1) = true := by rw [beq_iff_eq]; omega
            have hfl : fr < ws.length := by omega
            clear hy
            by_cases hyx : y = x
            · have hyb : (y == x) = true := by rw [beq_iff_eq]; exact hyx
              have hone := Lib.hid (HONE.out.2 hyx)
              clear hyx hke
              by_cases hc1' : xc = 1
              case' pos =>
                have R := Lib.hid (fun q => IH.out (some ⟨bx, ox, none⟩) q k (by rw [HE0.out hc1']; exact IntsAt.nil _ _ _))
                have hle : xc ≤ 1 := by omega
                clear hc1'
              case' neg => have R := Lib.hid (fun q => IH.out (some ⟨bx, ox + 1, none⟩) q k HT.out)
              all_goals
                go_wp2_with fail
                refine (R.out _ (by omega) (by omega) HXR.out hkt).mono ?_
                rintro e w2 ⟨⟨b, rfl, hb⟩, rfl⟩
                cases b with
                | true =>
                  have HS := Lib.hid (show Spn (Sc c) ws (x :: xs) fr tu from ⟨k, hone.out, hb.1 rfl⟩)
                  clear hb
                  go_wp2_with fail
                  go_ret
                  exact ⟨⟨true, rfl, fun _ => HS.out, fun _ => rfl⟩, rfl⟩
                | false =>
                  have HN := Lib.hid (HNX.out (fun _ h => by have := hb.2 h; cases this))
                  clear hb
                  go_wp2_with fail
                  go_roundw
                  case rel => exact ⟨k + 1, by go_num, by omega, by omega, HN, trivial⟩
                  case measure => simp [intOf]; omega
            · have hyb : (y == x) = false := by rw [beq_eq_false_iff_ne]; exact hyx
              have HN := Lib.hid (HNX.out (fun h => absurd (HONE.out.1 h) hyx))
              clear hyx hke
              go_wp2_with fail
              go_roundw
              case rel => exact ⟨k + 1, by go_num, by omega, by omega, HN, trivial⟩
              case measure => simp [intOf]; omega
          · have HN := Lib.hid (HNX.out (fun h => by
              rcases h with ⟨_, h, _⟩ | ⟨h, _⟩
              · exact absurd h hke
              · omega))
            have hkb : ((k : Int) == (fr : Int) + 1) = false := by rw [beq_eq_false_iff_ne]; omega
            clear hke
            go_wp2_with fail
            go_roundw
            case rel => exact ⟨k + 1, by go_num, by omega, by omega, HN, trivial⟩
            case measure => simp [intOf]; omega
        · obtain ⟨bm, om, q, rc, hme, hc1, hrow⟩ := HM.out (-1 - x).toNat (by omega)
          subst hme
          obtain ⟨p, cc, hc2, hcell⟩ := hrow fr (by omega)
          have hc3 := hcell k (by omega)
          have HONE := Lib.hid (show One (Sc c) ws x fr k ↔ c (-1 - x).toNat fr k = true from ⟨fun h => by
            rcases h with ⟨h, _⟩ | ⟨_, _, _, h⟩
            · omega
            · exact h, fun h => .inr ⟨by omega, hk1, by omega, h⟩⟩)
          obtain ⟨y, hy⟩ : ∃ y, y = c (-1 - x).toNat fr k := ⟨_, rfl⟩
          rw [← hy] at hc3 HONE
          clear hy hrow hcell
          cases y with
          | false =>
            have HN := Lib.hid (HNX.out (fun h => by have := HONE.out.1 h; cases this))
            go_wp2_with fail
            go_roundw
            case rel => exact ⟨k + 1, by go_num, by omega, by omega, HN, trivial⟩
            case measure => simp [intOf]; omega
          | true =>
            have hone := Lib.hid (HONE.out.2 rfl)
            by_cases hc1' : xc = 1
            case' pos =>
              have R := Lib.hid (fun q => IH.out (some ⟨bx, ox, none⟩) q k (by rw [HE0.out hc1']; exact IntsAt.nil _ _ _))
              have hle : xc ≤ 1 := by omega
              clear hc1'
            case' neg => have R := Lib.hid (fun q => IH.out (some ⟨bx, ox + 1, none⟩) q k HT.out)
            all_goals
              go_wp2_with fail
              refine (R.out _ (by omega) (by omega) HXR.out hkt).mono ?_
              rintro e w2 ⟨⟨b, rfl, hb⟩, rfl⟩
              cases b with
              | true =>
                have HS := Lib.hid (show Spn (Sc c) ws (x :: xs) fr tu from ⟨k, hone.out, hb.1 rfl⟩)
                clear hb
                go_wp2_with fail
                go_ret
                exact ⟨⟨true, rfl, fun _ => HS.out, fun _ => rfl⟩, rfl⟩
              | false =>
                have HN := Lib.hid (HNX.out (fun _ h => by have := hb.2 h; cases this))
                clear hb
                go_wp2_with fail
                go_roundw
                case rel => exact ⟨k + 1, by go_num, by omega, by omega, HN, trivial⟩
                case measure => simp [intOf]; omega
      · have HN := Lib.hid (show ¬ Spn (Sc c) ws (x :: xs) fr tu from fun h => (by
          obtain ⟨j, h1, h2⟩ := h
          have := h2.range h1.range.2
          exact absurd h2 (hall.out j (by omega) h1)))
        clear hall
        go_wp2_with fail
        go_ret
        exact ⟨⟨false, rfl, fun h => (by cases h), fun h => absurd h HN.out⟩, rfl⟩
end Go.Proofs.YtfdjnofkoegbdaaDoor
