/- slices' symMergeCmpFunc at []int: one element on the left, one on the right. No conditions beyond sizes. -/
import Derived.Test.YthfiecakmlpdiaaDoorStab1
namespace Go.Proofs.YthfiecakmlpdiaaDoor
open Go.RowKit Go.Mine Go.Mine.Stab

/-- What a merge leaves. -/
def Merged (L : Nat → Nat → Prop) (w : World) (a b n g cap : Nat) (c : Nat → Nat) (e : Ending) (w' : World) : Prop :=
  e = .returned (.tuple #[]) ∧ (∃ d, Lies w' g n cap d ∧ Mv a b c d ∧ SortedR L d a b) ∧ w.grownBy w' (some g)
set_option maxHeartbeats 2000000 in
set_option maxRecDepth 100000 in
theorem sym_left (L : Nat → Nat → Prop) (hL : Ord L) (a m b n g cap : Nat) (c : Nat → Nat) (gf : Nat) (lb : Array Value) (w : World) (hl : Lies w g n cap c) (hn : n ≤ 100) (hm : m = a + 1) (hmb : m < b) (hb : b ≤ n) (hv : Vals c n) (hr : Runs L c a m b)
    (hrun : ∀ v u w, Sem.run Tryd.prog (callFunc gf (#[v, u] ++ lb)) w = .ok (.enter gf (#[v, u] ++ lb)) w) (hc : GivesC L gf lb w g n) :
    Calls Tryd.prog 28 #[.slice (some ⟨g, 0, none⟩) n cap, .int .i64 a, .int .i64 m, .int .i64 b, .func (.func gf) #[] lb] w (Merged L w a b n g cap c) := by
  have HL := Lib.hid hl
  have HLO := Lib.hid hL
  have HV := Lib.hid hv
  have HR := Lib.hid hr
  have HC := Lib.hid hc
  have HM := Lib.hid hm
  have hd : ((m : Int) - (a : Int) == 1) = true := by rw [beq_iff_eq]; omega
  have ham : a < m := by omega
  have han : a < n := by omega
  have ha0 : (0 : Int) ≤ (a : Int) := by omega
  have han2 : (a : Int) < (n : Int) := by omega
  clear hl hL hv hr hc hm
  go_enter Tryd.func28, Tryd.ntmps28
  go_wp2_with fail
  go_loopw [10, 11] (fun iv jv wr => ∃ i j : Nat, iv = .int .i64 i ∧ jv = .int .i64 j ∧ m ≤ i ∧ i ≤ j ∧ j ≤ b ∧ RowKit.Hid ((∀ q, m ≤ q → q < i → L (c q) (c a)) ∧ (∀ q, j ≤ q → q < b → ¬ L (c q) (c a))) ∧ RowKit.Hid (Lies wr g n cap c ∧ w.grownBy wr (some g))) (fun iv jv _ => ((intOf jv) - (intOf iv)).toNat)
  case atStart => exact ⟨m, b, rfl, rfl, by omega, by omega, by omega, Lib.hid ⟨fun q h1 h2 => by omega, fun q h1 h2 => by omega⟩, Lib.hid ⟨HL.out, st_refl _ _⟩⟩
  clear HL
  case round =>
    obtain ⟨i, j, rfl, rfl, hmi, hij, hjb, hq, hl⟩ := hrel
    by_cases hlt : i < j
    · obtain ⟨h, hh⟩ : ∃ h, h = (i + j) / 2 := ⟨_, rfl⟩
      have hhe : ((i : Int) + (j : Int)) / 2 = (h : Int) := by omega
      have hih : i ≤ h := by omega
      have hhj : h < j := by omega
      have hhn : h < n := by omega
      have hmh : m ≤ h := by omega
      have hah : a ≠ h := by omega
      have hhb : h < b := by omega
      have h0 : (0 : Int) ≤ (h : Int) := by omega
      have hn2 : (h : Int) < (n : Int) := by omega
      have hch := hl.out.1.cell hhn
      have hca := hl.out.1.cell han
      have hgl := hl.out.1.lt
      have HG := Lib.hid hl.out.2
      have HLW := Lib.hid hl.out.1
      have hlt2 := HR.out.cross a h (Nat.le_refl _) (by omega) hmh hhb
      have HCALL := Lib.hid (fun (w' : World) (k : w.grownBy w' (some g)) => HC.out w' k (c h) (c a) hlt2 (HV.out.1 _ hhn))
      have HQ := Lib.hid hq.out
      have HF := Lib.hid (And.intro (fun hx => find1_lo HLO.out (c := c) (a := a) (b := b) (h := h) (by have := HM.out; rw [← this]; exact HR.out) hhb hx) (fun hx => find1_hi HLO.out (c := c) (a := a) (b := b) (h := h) (by have := HM.out; rw [← this]; exact HR.out) (by have := HM.out; omega) hx))
      obtain ⟨u, hu⟩ : ∃ u : Nat, u = c h := ⟨_, rfl⟩
      obtain ⟨v, hv⟩ : ∃ v : Nat, v = c a := ⟨_, rfl⟩
      rw [← hu] at hch HCALL
      rw [← hv] at hca HCALL
      have HUV := Lib.hid (And.intro hu hv)
      have HH := Lib.hid hh
      clear hq hl hlt2 hu hv hh
      go_wp2_with fail
      go_region_held3 (fun w' => w'.cell? ⟨g, h, none⟩ = some (.int .i64 (u : Int)) ∧ w'.cell? ⟨g, a, none⟩ = some (.int .i64 (v : Int))) (go_keep) (first | (go_at_fn gf; refine (HCALL.out _ ?_).mono ?_; (first | exact st_trans HG.out (st_drew 1) | exact HG.out); rintro e w3 ⟨⟨z, rfl, hz⟩, hb3⟩; have hcj3 := (hb3.cell (p := ⟨g, h, none⟩) hgl).trans hch; have hck3 := (hb3.cell (p := ⟨g, a, none⟩) hgl).trans hca))
      have HB3 := Lib.hid (And.intro ((HLW.out.drew 1).below hb3) ((st_trans HG.out (st_drew 1)).st_add hb3))
      have HZ := Lib.hid hz
      by_cases hz0 : z < 0
      · have hdz : decide (z < 0) = true := decide_eq_true hz0
        have HQ2 := Lib.hid (show ∀ q, m ≤ q → q < h + 1 → L (c q) (c a) from fun q k1 k2 => HF.out.1 (by have := HZ.out.1 hz0; rwa [HUV.out.1, HUV.out.2] at this) q (by have := HM.out; omega) k2)
        clear hz hb3 HCALL
        go_wp2_with fail
        go_roundw
        case rel => exact ⟨h + 1, j, by go_num, rfl, by omega, by omega, hjb, Lib.hid ⟨HQ2.out, HQ.out.2⟩, HB3⟩
        case measure => simp [intOf]; omega
      · have hdz : decide (z < 0) = false := decide_eq_false hz0
        have HQ2 := Lib.hid (show ∀ q, h ≤ q → q < b → ¬ L (c q) (c a) from HF.out.2 (fun hx => hz0 (HZ.out.2 (by rw [HUV.out.1, HUV.out.2]; exact hx))))
        clear hz hb3 HCALL
        go_wp2_with fail
        go_roundw
        case rel => exact ⟨i, h, rfl, rfl, hmi, hih, by omega, Lib.hid ⟨HQ.out.1, HQ2.out⟩, HB3⟩
        case measure => simp [intOf]; omega
    · obtain rfl : i = j := by omega
      have HS := Lib.hid (show SortedR L (rot m 1 (i - 1 - a) c) a b from by
        have e := HM.out
        have hr := HR.out
        have hq1 := hq.out.1
        have hq2 := hq.out.2
        rw [e] at hr hq1 ⊢
        exact hr.one_left HLO.out (by omega) hjb hq1 hq2)
      have HL := Lib.hid hl.out
      have hi1 : (i : Int) - 1 = ((i - 1 : Nat) : Int) := by omega
      obtain ⟨t, ht⟩ : ∃ t, t = i - 1 := ⟨_, rfl⟩
      rw [← ht] at hi1 HS
      have hat : a ≤ t := by omega
      have htb : t < b := by omega
      clear hq hl ht
      go_wp2_with fail
      go_loopw [13] (fun kv wr => ∃ k : Nat, kv = .int .i64 k ∧ a ≤ k ∧ k ≤ t ∧ RowKit.Hid (Lies wr g n cap (rot m 1 (k - a) c) ∧ w.grownBy wr (some g))) (fun kv _ => t - (intOf kv).toNat)
      case atStart => exact ⟨a, rfl, by omega, by omega, Lib.hid (by rw [Nat.sub_self, rot_zero_right]; exact HL.out)⟩
      clear HL
      case round =>
        obtain ⟨k, rfl, hak, hkt, hl⟩ := hrel
        by_cases hk : k < t
        · have hdk : decide ((k : Int) < (t : Int)) = true := by simp; omega
          obtain ⟨l, hle⟩ : ∃ l, l = k + 1 := ⟨_, rfl⟩
          have hkl : (k : Int) + 1 = (l : Int) := by omega
          have hlw : IntKind.i64.wrap (l : Int) = l := IntWalk.i64_in _ (by omega)
          have hkn : k < n := by omega
          have hln : l < n := by omega
          have hkn2 : (k : Int) < (n : Int) := by omega
          have hln2 : (l : Int) < (n : Int) := by omega
          have hk0 : (0 : Int) ≤ (k : Int) := by omega
          have hl0 : (0 : Int) ≤ (l : Int) := by omega
          have hne : ¬ k = l := by omega
          have hne2 : ¬ l = k := by omega
          have hcp := hl.out.1.cell hkn
          have hcq := hl.out.1.cell hln
          have hfp := hl.out.1.frozen k
          have hfq := hl.out.1.frozen l
          have hsw := hl.out.1.sw k l (by omega)
          obtain ⟨u, hu⟩ : ∃ u : Int, u = (rot m 1 (k - a) c k : Nat) := ⟨_, rfl⟩
          obtain ⟨v, hv⟩ : ∃ v : Int, v = (rot m 1 (k - a) c l : Nat) := ⟨_, rfl⟩
          rw [← hu] at hcp hsw
          rw [← hv] at hcq hsw
          rw [show Stab.sw (rot m 1 (k - a) c) k l = rot m 1 (l - a) c by rw [hle, HM.out]; exact up_succ hak c] at hsw
          obtain ⟨w3, hw3⟩ : ∃ w3, w3 = (wr.setCell ⟨g, k, none⟩ (.int .i64 v)).setCell ⟨g, l, none⟩ (.int .i64 u) := ⟨_, rfl⟩
          rw [← hw3] at hsw
          have HS2 := Lib.hid (show Lies w3.drew g n cap (rot m 1 (l - a) c) ∧ w.grownBy w3.drew (some g) from ⟨hsw.1.drew 1, st_trans (st_trans hl.out.2 hsw.2) (st_drew 1)⟩)
          have HW3 := Lib.hid hw3
          have hlt3 : l ≤ t := by omega
          have hal : a ≤ l := by omega
          clear hsw hu hv hl hw3 hle
          go_wp2_with fail
          go_region
          rw [← HW3.out]
          go_wp2_with fail
          go_roundw
          case rel => exact ⟨l, rfl, hal, hlt3, HS2⟩
          case measure => simp [intOf]; omega
        · have hdk : decide ((k : Int) < (t : Int)) = false := by simp; omega
          obtain rfl : k = t := by omega
          have HE := Lib.hid (show Merged L w a b n g cap c (.returned (.tuple #[])) wr from ⟨rfl, ⟨_, hl.out.1, (by
            have hm := rot_mv (m := m) (i := 1) (j := k - a) (by omega) c
            exact hm.wide (by have := HM.out; omega) (by have := HM.out; omega)), HS.out⟩, hl.out.2⟩)
          clear hl
          go_wp2_with fail
          go_end0
          exact HE.out
end Go.Proofs.YthfiecakmlpdiaaDoor
