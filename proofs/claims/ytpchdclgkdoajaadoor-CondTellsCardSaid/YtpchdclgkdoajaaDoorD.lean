/- assayerref2.CoversOf. -/
import Derived.Test.YtpchdclgkdoajaaDoorC
namespace Go.Proofs.YtpchdclgkdoajaaDoor
open Go.RowKit Go.Mine Go.Mine.Cond

/-- What the reference asks of a test: the lesser one of a pair. -/
def low (fs : List Bool) (xs : List Int) (i : Nat) (x : Int) : Bool := !x.toNat.testBit i && ((at' fs x.toNat != at' fs (x.toNat + 2 ^ i)) && decide (((x.toNat + 2 ^ i : Nat) : Int) ∈ xs))
theorem xor_back : ∀ n, n < 7 → ∀ k, k < n → ∀ t, t < 2 ^ n → t.testBit k = true → (t ^^^ 2 ^ k).testBit k = false ∧ (t ^^^ 2 ^ k) + 2 ^ k = t := by decide +kernel
theorem any_low {n i : Nat} {fs : List Bool} {xs : List Int} (hn : n ≤ 6) (hl : fs.length = 2 ^ n) (hi : i < n) (hr : ∀ x ∈ xs, 0 ≤ x ∧ x < fs.length) : xs.any (duo fs xs i) = xs.any (low fs xs i) := by
  rw [Bool.eq_iff_iff, List.any_eq_true, List.any_eq_true]
  constructor
  · rintro ⟨x, hx, hd⟩
    simp only [duo, Bool.and_eq_true, decide_eq_true_eq] at hd
    have hxr := hr x hx
    have ht : x.toNat < 2 ^ n := by omega
    cases hb : x.toNat.testBit i with
    | false =>
      have hs := (set_lt n (by omega) i hi _ ht hb).2
      rw [hs] at hd
      exact ⟨x, hx, by simp only [low, hb, Bool.not_false, Bool.true_and, Bool.and_eq_true, decide_eq_true_eq]; exact hd⟩
    | true =>
      obtain ⟨b1, b2⟩ := xor_back n (by omega) i hi _ ht hb
      refine ⟨_, hd.2, ?_⟩
      simp only [low, Int.toNat_natCast, b1, Bool.not_false, Bool.true_and, Bool.and_eq_true, decide_eq_true_eq, b2]
      refine ⟨?_, by rw [Int.toNat_of_nonneg hxr.1]; exact hx⟩
      have := hd.1
      simp only [bne_iff_ne, ne_eq] at this ⊢
      exact fun h => this h.symm
  · rintro ⟨x, hx, hd⟩
    simp only [low, Bool.and_eq_true, Bool.not_eq_true', decide_eq_true_eq] at hd
    have hxr := hr x hx
    have hs := (set_lt n (by omega) i hi _ (show x.toNat < 2 ^ n by omega) hd.1).2
    exact ⟨x, hx, by simp only [duo, hs, Bool.and_eq_true, decide_eq_true_eq]; exact hd.2⟩

theorem any_take_succ {xs : List Int} {p : Int → Bool} {k : Nat} (hk : k < xs.length) : (xs.take (k + 1)).any p = ((xs.take k).any p || p (xs.getD k 0)) := by
  rw [List.take_succ_eq_append_getElem hk, List.any_append]
  simp [hk]
theorem mem_take_succ {fs : List Bool} {b : Bool} {k : Nat} (hk : k < fs.length) : decide (b ∈ fs.take (k + 1)) = (decide (b ∈ fs.take k) || (fs.getD k false == b)) := by
  have e : fs[k] = fs.getD k false := by simp [hk]
  rw [List.take_succ_eq_append_getElem hk, e]
  generalize fs.getD k false = v
  by_cases h : b ∈ fs.take k <;> cases v <;> cases b <;> simp_all

set_option maxHeartbeats 4000000 in
set_option maxRecDepth 100000 in
theorem coversOf_any (n : Nat) (fs : List Bool) (xs : List Int) (fo mo : Option Addr) (fc tc : Nat) (W : World) (hf : BoolsAt W fo fs) (hx : IntsAt .i64 W mo xs) (hn1 : 1 ≤ n) (hn : n ≤ 6) (hl : fs.length = 2 ^ n) (hr : ∀ x ∈ xs, 0 ≤ x ∧ x < fs.length) (hxl : xs.length ≤ maxLen) :
    Calls Tryd.prog 14 #[.int .i64 n, .slice fo fs.length fc, .slice mo xs.length tc] W fun e w' => (∃ b, e = .returned (.bool b) ∧ (b = true ↔ Cov n fs xs)) ∧ ∃ q, w' = W.drewN q := by
  have HX := Lib.hid hx
  have HXL := Lib.hid hxl
  have HF := Lib.hid hf
  have HL := Lib.hid hl
  have HR := Lib.hid hr
  have hlp : fs.length ≤ 64 := by have := pow_le hn; omega
  unfold maxLen at hxl
  clear hf hx hl hr
  have HALLX := Lib.hid (show ∀ w q, w = W.drewN q → BoolsAt w fo fs ∧ IntsAt .i64 w mo xs from fun w q h => by rw [h]; exact ⟨HF.out.drewN q, HX.out.drewN q⟩)
  go_enter Tryd.func14, Tryd.ntmps14
  go_wp2_with fail
  go_loopw [7] (fun iv wr => ∃ i q : Nat, iv = .int .i64 i ∧ i ≤ n ∧ RowKit.Hid (∀ j, j < i → Mat fs j → xs.any (duo fs xs j) = true) ∧ wr = W.drewN q) (fun iv _ => n - (intOf iv).toNat)
  case atStart => exact ⟨0, 0, rfl, by omega, Lib.hid (fun j hj => by omega), (drewN_zero W).symm⟩
  case round =>
    obtain ⟨i, q, rfl, hi, hall, hwr⟩ := hrel
    by_cases hin : i < n
    · have HP := Lib.hid (pairOf_any n i fs fo fc wr (by rw [hwr]; exact HF.out.drewN q) HL.out hn hin)
      have HWR := Lib.hid hwr
      clear hwr
      go_wp2_with fail
      refine HP.out.mono ?_
      clear HP
      rintro e w2 ⟨hp, q2, hw2⟩
      have HW2 := Lib.hid (show w2 = W.drewN (q + q2) by rw [hw2, HWR.out]; exact drewN_drewN _ _ _)
      clear hw2 HWR
      obtain ⟨m0, hm0⟩ : ∃ m0 : Bool, (m0 = true ↔ ¬ Mat fs i) ∧ ∃ z, e = .returned (.int .i64 z) ∧ decide (z < 0) = m0 := by
        rcases hp with ⟨h, rfl⟩ | ⟨t, h, rfl⟩
        · exact ⟨true, ⟨fun _ => h, fun _ => rfl⟩, -1, rfl, rfl⟩
        · exact ⟨false, ⟨fun h0 => (by cases h0), fun h' => absurd h.mat h'⟩, t, rfl, by simp⟩
      obtain ⟨hm1, z, rfl, hz⟩ := hm0
      have HM := Lib.hid hm1
      clear hp hm1
      have hp := pow_wrap i (by omega)
      have HSET := Lib.hid (set_lt n (by omega) i hin)
      have HLOW := Lib.hid (show ∀ t : Nat, low fs xs i t = (!t.testBit i && ((at' fs t != at' fs (t + 2 ^ i)) && decide (((t + 2 ^ i : Nat) : Int) ∈ xs))) from fun t => by unfold low; rw [Int.toNat_natCast])
      have HANY := Lib.hid (any_low hn HL.out hin HR.out)
      have hBp : 2 ^ i ≤ 64 := pow_le (by omega)
      have HLL := Lib.hid (show ∀ t, t < fs.length → t.testBit i = false → t + 2 ^ i < fs.length from fun t h1 h2 => by rw [HL.out] at h1 ⊢; exact (HSET.out t h1 h2).1)
      obtain ⟨B, hB⟩ : ∃ B, B = 2 ^ i := ⟨_, rfl⟩
      rw [← hB] at hp HLOW hBp HLL
      clear hB HSET
      go_wp2_with fail
      go_loopw [8, 9] (fun mv kv wr => ∃ (k q : Nat) (mb : Bool), kv = .int .i64 k ∧ k ≤ xs.length ∧ mv = .bool mb ∧ RowKit.Hid (mb = (m0 || (xs.take k).any (low fs xs i))) ∧ wr = W.drewN q) (fun _ kv _ => xs.length - (intOf kv).toNat)
      case atStart => exact ⟨0, q + q2, m0, rfl, by omega, rfl, Lib.hid (by simp), HW2.out⟩
      clear HW2
      case round =>
        obtain ⟨k, q3, mb, rfl, hk, rfl, hmb, hwr⟩ := hrel
        have HWR := Lib.hid hwr
        obtain ⟨hfw, hxw⟩ := HALLX.out wr q3 hwr
        clear hwr
        by_cases hlt : k < xs.length
        · obtain ⟨b, o, rfl, hc⟩ := hxw k hlt
          have hmem : xs.getD k 0 ∈ xs := by simp [hlt]
          have hxr := HR.out _ hmem
          obtain ⟨t, ht⟩ := Int.eq_ofNat_of_zero_le hxr.1
          rw [ht] at hc
          have htl : t < fs.length := by omega
          have hsucc := any_take_succ (p := low fs xs i) hlt
          rw [ht, HLOW.out t] at hsucc
          have HSU := Lib.hid hsucc
          have HSO := Lib.hid (so_any t i (by omega) (by omega) wr)
          have HXW := Lib.hid hxw
          have HFW := Lib.hid hfw
          clear hmem hxr ht hsucc hxw hfw
          cases hbit : t.testBit i with
          | true =>
            have HS1 := Lib.hid (HSO.out.mono fun e w' h => (⟨by rw [h.1, hbit], h.2⟩ : e = .returned (.bool true) ∧ wr = w'))
            have HN := Lib.hid (show mb = (m0 || (xs.take (k + 1)).any (low fs xs i)) by rw [HSU.out, hbit, hmb.out]; simp)
            clear hbit HSO
            go_wp2_with fail
            refine HS1.out.mono ?_
            rintro e w3 ⟨rfl, rfl⟩
            go_wp2_with fail
            go_roundw
            case rel => exact ⟨k + 1, q3, mb, by go_num, by omega, rfl, HN, HWR.out⟩
            case measure => simp [intOf]; omega
          | false =>
            have HS1 := Lib.hid (HSO.out.mono fun e w' h => (⟨by rw [h.1, hbit], h.2⟩ : e = .returned (.bool false) ∧ wr = w'))
            have hul := HLL.out t htl hbit
            obtain ⟨bf, of', rfl, hcell⟩ := HFW.out.plain (by omega)
            have hc1 := hcell t htl
            have hc2 := hcell (t + B) hul
            have hsu := HSU.out
            rw [hbit] at hsu
            simp only [Bool.not_false, Bool.true_and] at hsu
            have e1 : fs.getD t false = at' fs t := rfl
            have e2 : fs.getD (t + B) false = at' fs (t + B) := rfl
            rw [e1] at hc1
            rw [e2] at hc2
            obtain ⟨x, hx⟩ : ∃ x, x = at' fs t := ⟨_, rfl⟩
            obtain ⟨y, hy⟩ : ∃ y, y = at' fs (t + B) := ⟨_, rfl⟩
            rw [← hx] at hc1 hsu
            rw [← hy] at hc2 hsu
            obtain ⟨u, hu⟩ : ∃ u, u = t + B := ⟨_, rfl⟩
            have hui : (t : Int) + (B : Int) = (u : Int) := by omega
            rw [← hu] at hul hc2 hsu
            have HIN := Lib.hid (fun n => In_any xs (u : Int) (some ⟨b, o, none⟩) tc (wr.drewN n) (HXW.out.drewN n) HXL.out)
            have HSUU := Lib.hid hsu
            clear e1 e2 hx hy hu hbit HSO hcell hsu HSU
            cases mb
            case' true =>
              have HN := Lib.hid (show true = (m0 || (xs.take (k + 1)).any (low fs xs i)) by rw [HSUU.out, ← Bool.or_assoc, ← hmb.out]; rfl)
              go_wp2_with fail
              refine HS1.out.mono ?_
              rintro e w3 ⟨rfl, rfl⟩
              go_wp2_with fail
              go_quiet (fail)
            case' false =>
              by_cases hxy : x = y
              case' pos =>
                subst hxy
                have hne : (x != x) = false := by simp
                have HN := Lib.hid (show false = (m0 || (xs.take (k + 1)).any (low fs xs i)) by rw [HSUU.out, ← Bool.or_assoc, ← hmb.out, hne]; rfl)
                go_wp2_with fail
                refine HS1.out.mono ?_
                rintro e w3 ⟨rfl, rfl⟩
                go_wp2_with fail
                go_quiet (fail)
              case' neg =>
                obtain rfl : y = !x := by cases x <;> cases y <;> simp_all
                clear hxy
                have HN := Lib.hid (show decide ((u : Int) ∈ xs) = (m0 || (xs.take (k + 1)).any (low fs xs i)) by rw [HSUU.out, ← Bool.or_assoc, ← hmb.out]; cases x <;> simp)
                obtain ⟨d, hd⟩ : ∃ d, d = decide ((u : Int) ∈ xs) := ⟨_, rfl⟩
                rw [← hd] at HN HIN
                clear hd
                cases x
                all_goals
                  go_wp2_with fail
                  refine HS1.out.mono ?_
                  rintro e w3 ⟨rfl, rfl⟩
                  go_wp2_with fail
                  go_quiet (first | (go_at_call 19; refine Calls.quiet_of_same ((HIN.out _).mono fun e w' h => ⟨h.1, h.2.symm⟩)))
            all_goals
              go_wp2_with fail
              go_roundw
            all_goals first
              | exact ⟨k + 1, _, _, by go_num, by omega, by simp; first | done | rfl, HN, by rw [HWR.out]; exact drewN_drewN _ _ _⟩
              | (simp [intOf]; omega)
        · have hke : k = xs.length := by omega
          have hm := hmb.out
          rw [hke, List.take_length, ← HANY.out] at hm
          cases mb with
          | true =>
            have HN := Lib.hid (show ∀ j, j < i + 1 → Mat fs j → xs.any (duo fs xs j) = true from fun j hj hmat => by
              by_cases e : j = i
              · subst e
                cases m0 with
                | true => exact absurd hmat (HM.out.1 rfl)
                | false => rw [hm]; rfl
              · exact hall.out j (by omega) hmat)
            clear hm hmb hfw hxw hall
            go_wp2_with fail
            go_roundw
            case rel => exact ⟨i + 1, q3, by go_num, by omega, HN, HWR.out⟩
            case measure => simp [intOf]; omega
          | false =>
            have HNO := Lib.hid (show ¬ Cov n fs xs from fun h => by
              cases m0 with
              | true => simp at hm
              | false =>
                have hmat : Mat fs i := Classical.byContradiction fun h => by have := HM.out.2 h; cases this
                have := h.1 i hin hmat
                rw [this] at hm
                cases hm)
            clear hm hmb hfw hxw hall
            go_wp2_with fail
            go_ret
            exact ⟨⟨false, rfl, ⟨fun h => (by cases h), fun h => absurd h HNO.out⟩⟩, q3, HWR.out⟩
    · obtain rfl : i = n := by omega
      have HWR := Lib.hid hwr
      clear hwr
      go_wp2_with fail
      go_loopw [12, 13, 14] (fun yv nv tv wr => ∃ (k q : Nat) (yb nb : Bool), tv = .int .i64 k ∧ k ≤ fs.length ∧ yv = .bool yb ∧ nv = .bool nb ∧ RowKit.Hid (yb = decide (true ∈ fs.take k) ∧ nb = decide (false ∈ fs.take k)) ∧ wr = W.drewN q) (fun _ _ tv _ => fs.length - (intOf tv).toNat)
      case atStart => exact ⟨0, q, false, false, rfl, by omega, rfl, rfl, Lib.hid ⟨by simp, by simp⟩, HWR.out⟩
      clear HWR
      case round =>
        obtain ⟨k, q3, yb, nb, rfl, hk, rfl, rfl, hyn, hwr⟩ := hrel
        have HWR := Lib.hid hwr
        obtain ⟨hfw, hxw⟩ := HALLX.out wr q3 hwr
        clear hwr
        by_cases hlt : k < fs.length
        · obtain ⟨b, o, rfl, hc⟩ := hfw k hlt
          have h1 := mem_take_succ (b := true) hlt
          have h2 := mem_take_succ (b := false) hlt
          obtain ⟨x, hx⟩ : ∃ x, x = fs.getD k false := ⟨_, rfl⟩
          rw [← hx] at hc h1 h2
          rw [← hyn.out.1] at h1
          rw [← hyn.out.2] at h2
          have H1 := Lib.hid h1
          have H2 := Lib.hid h2
          clear hfw hxw hx h1 h2 hyn
          cases yb <;> cases nb <;> cases x
          all_goals
            go_wp2_with fail
            go_roundw
          all_goals first
            | exact ⟨k + 1, q3, _, _, by go_num, by omega, rfl, rfl, Lib.hid ⟨by rw [H1.out]; rfl, by rw [H2.out]; rfl⟩, HWR.out⟩
            | (simp [intOf]; omega)
        · have hke : k = fs.length := by omega
          have hyn2 := hyn.out
          rw [hke, List.take_length] at hyn2
          have HYN := Lib.hid hyn2
          clear hyn hyn2 hfw hxw
          go_wp2_with fail
          go_loopw [15, 16, 17] (fun cv dv kv wr => ∃ (k q : Nat) (cb db : Bool), kv = .int .i64 k ∧ k ≤ xs.length ∧ cv = .bool cb ∧ dv = .bool db ∧ RowKit.Hid (cb = (xs.take k).any (fun x => at' fs x.toNat == true) ∧ db = (xs.take k).any (fun x => at' fs x.toNat == false)) ∧ wr = W.drewN q) (fun _ _ kv _ => xs.length - (intOf kv).toNat)
          case atStart => exact ⟨0, q3, false, false, rfl, by omega, rfl, rfl, Lib.hid ⟨by simp, by simp⟩, HWR.out⟩
          clear HWR
          case round =>
            obtain ⟨k, q3, cb, db, rfl, hk, rfl, rfl, hcd, hwr⟩ := hrel
            have HWR := Lib.hid hwr
            obtain ⟨hfw, hxw⟩ := HALLX.out wr q3 hwr
            clear hwr
            by_cases hlt : k < xs.length
            · obtain ⟨b, o, rfl, hc⟩ := hxw k hlt
              have hmem : xs.getD k 0 ∈ xs := by simp [hlt]
              have hxr := HR.out _ hmem
              obtain ⟨t, ht⟩ := Int.eq_ofNat_of_zero_le hxr.1
              have htl : t < fs.length := by omega
              obtain ⟨bf, of', rfl, hcf⟩ := hfw t htl
              have h1 := any_take_succ (p := fun x => at' fs x.toNat == true) hlt
              have h2 := any_take_succ (p := fun x => at' fs x.toNat == false) hlt
              rw [ht, ← hcd.out.1] at h1
              rw [ht, ← hcd.out.2] at h2
              simp only [Int.toNat_natCast] at h1 h2
              rw [ht] at hc
              have e1 : fs.getD t false = at' fs t := rfl
              rw [e1] at hcf
              obtain ⟨x, hx⟩ : ∃ x, x = at' fs t := ⟨_, rfl⟩
              rw [← hx] at hcf h1 h2
              have H1 := Lib.hid h1
              have H2 := Lib.hid h2
              clear hfw hxw hx h1 h2 hcd e1 hxr hmem ht
              cases cb <;> cases db <;> cases x
              all_goals
                go_wp2_with fail
                go_roundw
              all_goals first
                | exact ⟨k + 1, q3, _, _, by go_num, by omega, rfl, rfl, Lib.hid ⟨by rw [H1.out]; rfl, by rw [H2.out]; rfl⟩, HWR.out⟩
                | (simp [intOf]; omega)
            · have hke : k = xs.length := by omega
              have hcd2 := hcd.out
              rw [hke, List.take_length] at hcd2
              have hfin : (((!(yb && nb)) || (cb && db)) = true) ↔ Cov i fs xs := by
                rw [HYN.out.1, HYN.out.2, hcd2.1, hcd2.2]
                constructor
                · intro h
                  refine ⟨fun j hj hm => hall.out j hj hm, fun h1 h2 b => ?_⟩
                  rw [decide_eq_true h1, decide_eq_true h2] at h
                  simp only [Bool.and_self, Bool.not_true, Bool.false_or, Bool.and_eq_true] at h
                  cases b
                  · exact h.2
                  · exact h.1
                · intro h
                  by_cases h1 : false ∈ fs
                  · by_cases h2 : true ∈ fs
                    · rw [h.2 h1 h2 true, h.2 h1 h2 false]; simp
                    · rw [decide_eq_false h2]; simp
                  · rw [decide_eq_false h1]; simp
              have HFIN := Lib.hid hfin
              clear hfin hcd hcd2 hfw hxw hall HYN
              cases yb <;> cases nb <;> cases cb <;> cases db
              all_goals
                go_wp2_with fail
                go_ret
                exact ⟨⟨_, rfl, HFIN.out⟩, q3, HWR.out⟩
end Go.Proofs.YtpchdclgkdoajaaDoor
