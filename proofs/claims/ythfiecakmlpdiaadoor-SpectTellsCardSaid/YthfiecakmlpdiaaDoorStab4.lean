/- slices' symMergeCmpFunc at []int: the cut, the rotation, the two halves; the whole of it. No conditions beyond sizes. -/
import Derived.Test.YthfiecakmlpdiaaDoorStab3
namespace Go.Proofs.YthfiecakmlpdiaaDoor
open Go.RowKit Go.Mine Go.Mine.Stab

/-- What a merge is owed, where it is smaller. -/
def MergesTo (L : Nat → Nat → Prop) (gf : Nat) (lb : Array Value) (n g cap k : Nat) : Prop :=
  ∀ (a m b : Nat) (c : Nat → Nat) (w : World), b - a < k → a < m → m < b → b ≤ n → Lies w g n cap c → Vals c n → Runs L c a m b → GivesC L gf lb w g n →
    Calls Tryd.prog 28 #[.slice (some ⟨g, 0, none⟩) n cap, .int .i64 a, .int .i64 m, .int .i64 b, .func (.func gf) #[] lb] w (Merged L w a b n g cap c)
set_option maxHeartbeats 8000000 in
set_option maxRecDepth 100000 in
theorem sym_rec (L : Nat → Nat → Prop) (hL : Ord L) (a m b n g cap : Nat) (c : Nat → Nat) (gf : Nat) (lb : Array Value) (w : World) (hl : Lies w g n cap c) (hn : n ≤ 100) (ham : a + 2 ≤ m) (hmb : m + 2 ≤ b) (hb : b ≤ n) (hv : Vals c n) (hr : Runs L c a m b)
    (hrun : ∀ v u w, Sem.run Tryd.prog (callFunc gf (#[v, u] ++ lb)) w = .ok (.enter gf (#[v, u] ++ lb)) w) (hc : GivesC L gf lb w g n) (ih : MergesTo L gf lb n g cap (b - a)) :
    Calls Tryd.prog 28 #[.slice (some ⟨g, 0, none⟩) n cap, .int .i64 a, .int .i64 m, .int .i64 b, .func (.func gf) #[] lb] w (Merged L w a b n g cap c) := by
  have HL := Lib.hid hl
  have HLO := Lib.hid hL
  have HV := Lib.hid hv
  have HR := Lib.hid hr
  have HC := Lib.hid hc
  have HIH := Lib.hid ih
  have hd : ((m : Int) - (a : Int) == 1) = false := by rw [beq_eq_false_iff_ne]; omega
  have hd2 : ((b : Int) - (m : Int) == 1) = false := by rw [beq_eq_false_iff_ne]; omega
  obtain ⟨mid, hmid⟩ : ∃ mid, mid = (a + b) / 2 := ⟨_, rfl⟩
  have hmide : ((a : Int) + (b : Int)) / 2 = (mid : Int) := by omega
  obtain ⟨N, hN⟩ : ∃ N, N = mid + m := ⟨_, rfl⟩
  have hNe : (mid : Int) + (m : Int) = (N : Int) := by omega
  obtain ⟨p, hp⟩ : ∃ p, N = p + 1 := ⟨N - 1, by omega⟩
  have hpe : (N : Int) - 1 = (p : Int) := by omega
  have hmid1 : a < mid := by omega
  have hmid2 : mid < b := by omega
  have hN200 : N ≤ 200 := by omega
  have HMID := Lib.hid (And.intro hmid (And.intro hN hp))
  clear hl hL hv hr hc ih hmid hN hp
  by_cases hgt : mid < m
  case' pos =>
    obtain ⟨s0, hs0⟩ : ∃ s0, N = s0 + b := ⟨N - b, by have := HMID.out; omega⟩
    have hs0e : (N : Int) - (b : Int) = (s0 : Int) := by omega
    have hgd : decide ((mid : Int) < (m : Int)) = true := by simp; omega
    obtain ⟨r0, hr0⟩ : ∃ r0, r0 = mid := ⟨_, rfl⟩
    have H0 := Lib.hid (show (mid < m ∧ s0 = mid + m - b ∧ r0 = mid) ∨ (m ≤ mid ∧ s0 = a ∧ r0 = m) from .inl ⟨hgt, by have := HMID.out; omega, hr0⟩)
    have HVA := Lib.hid (show (s0 : Int) = (s0 : Int) from rfl)
    have HVB := Lib.hid (show Value.int .i64 (mid : Int) = .int .i64 (r0 : Int) from by rw [hr0])
    clear hs0 hr0
    go_enter Tryd.func28, Tryd.ntmps28
    go_wp2_with fail
  case' neg =>
    have hgd : decide ((mid : Int) < (m : Int)) = false := by simp; omega
    obtain ⟨s0, hs0⟩ : ∃ s0, s0 = a := ⟨_, rfl⟩
    obtain ⟨r0, hr0⟩ : ∃ r0, r0 = m := ⟨_, rfl⟩
    have H0 := Lib.hid (show (mid < m ∧ s0 = mid + m - b ∧ r0 = mid) ∨ (m ≤ mid ∧ s0 = a ∧ r0 = m) from .inr ⟨by omega, hs0, hr0⟩)
    have HVA := Lib.hid (show Value.int .i64 (a : Int) = .int .i64 (s0 : Int) from by rw [hs0])
    have HVB := Lib.hid (show Value.int .i64 (m : Int) = .int .i64 (r0 : Int) from by rw [hr0])
    clear hs0 hr0
    go_enter Tryd.func28, Tryd.ntmps28
    go_wp2_with fail
  all_goals
    go_loopw [20, 21] (fun sv rv wr => ∃ s r : Nat, sv = .int .i64 s ∧ rv = .int .i64 r ∧ s0 ≤ s ∧ s ≤ r ∧ r ≤ r0 ∧ RowKit.Hid ((∀ q, s0 ≤ q → q < s → ¬ L (c (p - q)) (c q)) ∧ (∀ q, r ≤ q → q < r0 → L (c (p - q)) (c q))) ∧ RowKit.Hid (Lies wr g n cap c ∧ w.grownBy wr (some g))) (fun sv rv _ => ((intOf rv) - (intOf sv)).toNat)
  all_goals try (case atStart => exact ⟨s0, r0, by first | rfl | exact HVA.out, by first | exact HVB.out | rfl, by omega, by have := H0.out; have := HMID.out; omega, by omega, Lib.hid ⟨fun q h1 h2 => by omega, fun q h1 h2 => by omega⟩, Lib.hid ⟨HL.out, st_refl _ _⟩⟩)
  all_goals
    case round =>
      clear HL
      obtain ⟨s, r, rfl, rfl, hs0s, hsr, hrr, hq, hl⟩ := hrel
      have hr0m : r0 ≤ mid ∧ r0 ≤ m := by have := H0.out; omega
      have ha0 : a ≤ s0 := by have := H0.out; have := HMID.out; omega
      by_cases hlt : s < r
      · obtain ⟨h, hh⟩ : ∃ h, h = (s + r) / 2 := ⟨_, rfl⟩
        have hhe : ((s : Int) + (r : Int)) / 2 = (h : Int) := by omega
        have hih : s ≤ h := by omega
        have hhj : h < r := by omega
        obtain ⟨t, ht⟩ : ∃ t, p = t + h := ⟨p - h, by have := HMID.out; have := H0.out; omega⟩
        have hte : (p : Int) - (h : Int) = (t : Int) := by omega
        have htw : IntKind.i64.wrap (t : Int) = t := IntWalk.i64_in _ (by omega)
        have hpt : p - h = t := by omega
        have htm : m ≤ t ∧ t < b := by have := HMID.out; have := H0.out; omega
        have hhm : h < m := by omega
        have hah : a ≤ h := by omega
        have hhn : h < n := by omega
        have htn : t < n := by omega
        have hht : h ≠ t := by omega
        have h0 : (0 : Int) ≤ (h : Int) := by omega
        have hn2 : (h : Int) < (n : Int) := by omega
        have t0 : (0 : Int) ≤ (t : Int) := by omega
        have tn2 : (t : Int) < (n : Int) := by omega
        have hch := hl.out.1.cell hhn
        have hct := hl.out.1.cell htn
        have hgl := hl.out.1.lt
        have HG := Lib.hid hl.out.2
        have HLW := Lib.hid hl.out.1
        have hlt2 := HR.out.cross h t hah hhm htm.1 htm.2
        have HCALL := Lib.hid (fun (w' : World) (k : w.grownBy w' (some g)) => HC.out w' k (c t) (c h) hlt2 (HV.out.1 _ htn))
        have HQ := Lib.hid hq.out
        have HUP := Lib.hid (show L (c t) (c h) → ∀ q, h ≤ q → q < r0 → L (c (p - q)) (c q) from fun hx q k1 k2 => by
          rw [← hpt] at hx
          exact find3 HLO.out HR.out hah k1 (by omega) (by have := HMID.out; have := H0.out; omega) (by omega) hx)
        have HDN := Lib.hid (show ¬ L (c t) (c h) → ∀ q, s0 ≤ q → q < h + 1 → ¬ L (c (p - q)) (c q) from fun hx q k1 k2 hy => by
          have := find3 HLO.out HR.out (p := p) (q := q) (q' := h) (by omega) (by omega) hhm (by omega) (by have := HMID.out; have := H0.out; omega) hy
          rw [hpt] at this
          exact hx this)
        obtain ⟨u, hu⟩ : ∃ u : Nat, u = c h := ⟨_, rfl⟩
        obtain ⟨v, hv⟩ : ∃ v : Nat, v = c t := ⟨_, rfl⟩
        rw [← hu] at hch HCALL HUP HDN
        rw [← hv] at hct HCALL HUP HDN
        clear hq hl hlt2 hu hv hh ht hpt htm
        go_wp2_with fail
        go_region_held3 (fun w' => w'.cell? ⟨g, t, none⟩ = some (.int .i64 (v : Int)) ∧ w'.cell? ⟨g, h, none⟩ = some (.int .i64 (u : Int))) (go_keep) (first | (go_at_fn gf; refine (HCALL.out _ ?_).mono ?_; (first | exact st_trans HG.out (st_drew 1) | exact HG.out); rintro e w3 ⟨⟨z, rfl, hz⟩, hb3⟩; have hcj3 := (hb3.cell (p := ⟨g, h, none⟩) hgl).trans hch; have hck3 := (hb3.cell (p := ⟨g, t, none⟩) hgl).trans hct))
        have HB3 := Lib.hid (And.intro ((HLW.out.drew 1).below hb3) ((st_trans HG.out (st_drew 1)).st_add hb3))
        have HQ1 := Lib.hid (fun hz0 : z < 0 => HUP.out (hz.1 hz0))
        have HQ2 := Lib.hid (fun hz0 : ¬ z < 0 => HDN.out (fun hx => hz0 (hz.2 hx)))
        clear hz hb3 HCALL
        go_wp2_with fail
        · rename_i hx
          have hz0 : ¬ z < 0 := by simpa using hx
          go_roundw
          case rel => exact ⟨h + 1, r, by go_num, rfl, by omega, by omega, hrr, Lib.hid ⟨HQ2.out hz0, HQ.out.2⟩, HB3⟩
          case measure => simp [intOf]; omega
        · rename_i hx
          have hz0 : z < 0 := by simpa using hx
          go_roundw
          case rel => exact ⟨s, h, rfl, rfl, hs0s, hih, by omega, Lib.hid ⟨HQ.out.1, HQ1.out hz0⟩, HB3⟩
          case measure => simp [intOf]; omega
      · obtain rfl : s = r := by omega
        have HCUT := Lib.hid (show Cutp L c a m b mid s from cut_of HLO.out HR.out HMID.out.1 H0.out hs0s hrr
          (fun q k1 k2 => by have h := hq.out.1 q k1 k2; have e := HMID.out; rwa [show mid + m - 1 - q = p - q by omega])
          (fun q k1 k2 => by have h := hq.out.2 q k1 k2; have e := HMID.out; rwa [show mid + m - 1 - q = p - q by omega]))
        obtain ⟨e, he⟩ : ∃ e, N = e + s := ⟨N - s, by have := HMID.out; omega⟩
        have hee : (N : Int) - (s : Int) = (e : Int) := by omega
        have hem : e = mid + m - s := by have := HMID.out; omega
        have hsm : s ≤ mid ∧ s ≤ m ∧ m ≤ e ∧ e ≤ b ∧ a ≤ s ∧ mid ≤ e := by have h := HCUT.out; have h1 := h.lo; have h2 := h.hi; have h3 := h.sm; have h4 := h.end1; have h5 := h.end2; omega
        obtain ⟨R, hR⟩ : ∃ R, R = rot m (m - s) (mid - s) c := ⟨_, rfl⟩
        have HRUN1 := Lib.hid (HCUT.out.runs1 HR.out)
        have HRUN2 := Lib.hid (HCUT.out.runs2 HR.out)
        have HHALF := Lib.hid (HCUT.out.halves HLO.out HR.out)
        have HMV := Lib.hid (show Mv a b c R by
          rw [hR]
          have hm := rot_mv (m := m) (i := m - s) (j := mid - s) (by omega) c
          exact hm.wide (by omega) (by omega))
        rw [← hR] at HRUN1 HRUN2 HHALF
        rw [← hem] at HRUN2
        have HRE := Lib.hid hR
        have HLW := Lib.hid hl.out.1
        have HG := Lib.hid hl.out.2
        have HEM := Lib.hid hem
        clear hq hl hR he hem hlt
        have HVR := Lib.hid (HV.out.mv HMV.out hb)
        have h3 : (s < m ∧ m < e) ∨ (s < m ∧ ¬ m < e) ∨ ¬ s < m := by omega
        rcases h3 with kk | kk | kk
        all_goals first
          | (have kkt : s < m ∧ m < e := kk; have k1 := kkt.1; have k2 := kkt.2
             have hb1 : decide ((s : Int) < (m : Int)) = true := by simp; omega
             have hb2 : decide ((m : Int) < (e : Int)) = true := by simp; omega
             have HROT := Lib.hid (rotate_any s m e n g cap c (.func (.func gf) #[] lb) wr HLW.out hn k1 k2 (by omega))
             rw [show e - m = mid - s by have := HEM.out; omega, ← HRE.out] at HROT
             go_wp2_with fail
             go_fit HROT.out
             clear HROT
             rintro e4 w4 ⟨rfl, hl4, hg4⟩
             have HL4 := Lib.hid (And.intro hl4 (st_trans HG.out hg4))
             clear hl4 hg4)
          | (have kkt : s < m ∧ ¬ m < e := kk; have k1 := kkt.1; have k2 := kkt.2
             have hb1 : decide ((s : Int) < (m : Int)) = true := by simp; omega
             have hb2 : decide ((m : Int) < (e : Int)) = false := by simp; omega
             obtain ⟨w4, hw4⟩ : ∃ w4, w4 = wr := ⟨_, rfl⟩
             subst hw4
             have HL4 := Lib.hid (show Lies w4 g n cap R ∧ w.grownBy w4 (some g) from ⟨by rw [HRE.out, show mid - s = 0 by have := HEM.out; omega, rot_zero_right]; exact HLW.out, HG.out⟩))
          | (have k1 : ¬ s < m := kk
             have hb1 : decide ((s : Int) < (m : Int)) = false := by simp; omega
             obtain ⟨w4, hw4⟩ : ∃ w4, w4 = wr := ⟨_, rfl⟩
             subst hw4
             have HL4 := Lib.hid (show Lies w4 g n cap R ∧ w.grownBy w4 (some g) from ⟨by rw [HRE.out, show m - s = 0 by omega, rot_zero_left]; exact HLW.out, HG.out⟩))
        all_goals
          clear HLW HG
          have h4 : (a < s ∧ s < mid) ∨ (a < s ∧ ¬ s < mid) ∨ ¬ a < s := by omega
          rcases h4 with jj | jj | jj
          all_goals first
            | (have jjt : a < s ∧ s < mid := jj; have j1 := jjt.1; have j2 := jjt.2
               have hc1 : decide ((a : Int) < (s : Int)) = true := by simp; omega
               have hc2 : decide ((s : Int) < (mid : Int)) = true := by simp; omega
               have HC1 := Lib.hid (HIH.out a s mid R w4 (by omega) j1 j2 (by omega) HL4.out.1 HVR.out HRUN1.out (HC.out.step HL4.out.2))
               go_wp2_with fail
               go_fit HC1.out
               clear HC1
               rintro e5 w5 ⟨rfl, ⟨d1, hl5, hm5, hs5⟩, hg5⟩
               have HL5 := Lib.hid (And.intro hl5 (st_trans HL4.out.2 hg5))
               have HM5 := Lib.hid (And.intro hm5 hs5)
               clear hl5 hg5 hm5 hs5)
            | (have jjt : a < s ∧ ¬ s < mid := jj; have j1 := jjt.1; have j2 := jjt.2
               have hc1 : decide ((a : Int) < (s : Int)) = true := by simp; omega
               have hc2 : decide ((s : Int) < (mid : Int)) = false := by simp; omega
               obtain ⟨w5, hw5⟩ : ∃ w5, w5 = w4 := ⟨_, rfl⟩
               subst hw5
               obtain ⟨d1, hd1⟩ : ∃ d1, d1 = R := ⟨_, rfl⟩
               have HL5 := Lib.hid (show Lies w5 g n cap d1 ∧ w.grownBy w5 (some g) by rw [hd1]; exact HL4.out)
               have HM5 := Lib.hid (show Mv a mid R d1 ∧ SortedR L d1 a mid by rw [hd1]; exact ⟨Mv.refl _ _ _, by rw [show mid = s by omega]; exact HRUN1.out.left⟩)
               clear hd1)
            | (have j1 : ¬ a < s := jj
               have hc1 : decide ((a : Int) < (s : Int)) = false := by simp; omega
               obtain ⟨w5, hw5⟩ : ∃ w5, w5 = w4 := ⟨_, rfl⟩
               subst hw5
               obtain ⟨d1, hd1⟩ : ∃ d1, d1 = R := ⟨_, rfl⟩
               have HL5 := Lib.hid (show Lies w5 g n cap d1 ∧ w.grownBy w5 (some g) by rw [hd1]; exact HL4.out)
               have HM5 := Lib.hid (show Mv a mid R d1 ∧ SortedR L d1 a mid by rw [hd1]; exact ⟨Mv.refl _ _ _, by rw [show a = s by omega]; exact HRUN1.out.right⟩)
               clear hd1)
          all_goals
            clear HL4
            have HRUN3 := Lib.hid (HRUN2.out.congr (d := d1) hsm.2.2.2.2.2 (fun q k => HM5.out.1.out (.inr k)))
            have HV5 := Lib.hid (HVR.out.mv HM5.out.1 (by omega))
            have h5 : (mid < e ∧ e < b) ∨ (mid < e ∧ ¬ e < b) ∨ ¬ mid < e := by omega
            rcases h5 with ll | ll | ll
            all_goals first
              | (have llt : mid < e ∧ e < b := ll; have l1 := llt.1; have l2 := llt.2
                 have hf1 : decide ((mid : Int) < (e : Int)) = true := by simp; omega
                 have hf2 : decide ((e : Int) < (b : Int)) = true := by simp; omega
                 have HC2 := Lib.hid (HIH.out mid e b d1 w5 (by omega) l1 l2 hb HL5.out.1 HV5.out HRUN3.out (HC.out.step HL5.out.2))
                 go_wp2_with fail
                 go_fit HC2.out
                 clear HC2
                 rintro e6 w6 ⟨rfl, ⟨d2, hl6, hm6, hs6⟩, hg6⟩
                 have HL6 := Lib.hid (And.intro hl6 (st_trans HL5.out.2 hg6))
                 have HM6 := Lib.hid (And.intro hm6 hs6)
                 clear hl6 hg6 hm6 hs6)
              | (have llt : mid < e ∧ ¬ e < b := ll; have l1 := llt.1; have l2 := llt.2
                 have hf1 : decide ((mid : Int) < (e : Int)) = true := by simp; omega
                 have hf2 : decide ((e : Int) < (b : Int)) = false := by simp; omega
                 obtain ⟨w6, hw6⟩ : ∃ w6, w6 = w5 := ⟨_, rfl⟩
                 subst hw6
                 obtain ⟨d2, hd2⟩ : ∃ d2, d2 = d1 := ⟨_, rfl⟩
                 have HL6 := Lib.hid (show Lies w6 g n cap d2 ∧ w.grownBy w6 (some g) by rw [hd2]; exact HL5.out)
                 have HM6 := Lib.hid (show Mv mid b d1 d2 ∧ SortedR L d2 mid b by rw [hd2]; exact ⟨Mv.refl _ _ _, by rw [show b = e by omega]; exact HRUN3.out.left⟩)
                 clear hd2)
              | (have l1 : ¬ mid < e := ll
                 have hf1 : decide ((mid : Int) < (e : Int)) = false := by simp; omega
                 obtain ⟨w6, hw6⟩ : ∃ w6, w6 = w5 := ⟨_, rfl⟩
                 subst hw6
                 obtain ⟨d2, hd2⟩ : ∃ d2, d2 = d1 := ⟨_, rfl⟩
                 have HL6 := Lib.hid (show Lies w6 g n cap d2 ∧ w.grownBy w6 (some g) by rw [hd2]; exact HL5.out)
                 have HM6 := Lib.hid (show Mv mid b d1 d2 ∧ SortedR L d2 mid b by rw [hd2]; exact ⟨Mv.refl _ _ _, by rw [show mid = e by omega]; exact HRUN3.out.right⟩)
                 clear hd2)
            all_goals
              have HE := Lib.hid (show Merged L w a b n g cap c (.returned (.tuple #[])) w6 from ⟨rfl, ⟨d2, HL6.out.1, (HMV.out.trans (HM5.out.1.wide (Nat.le_refl _) (by omega))).trans (HM6.out.1.wide (by omega) (Nat.le_refl _)), halves_sorted HM5.out.1 HM6.out.1 (by omega) (by omega) HM5.out.2 HM6.out.2 HHALF.out⟩, HL6.out.2⟩)
              clear HL5 HL6
              go_wp2_with fail
              go_end0
              exact HE.out
end Go.Proofs.YthfiecakmlpdiaaDoor
