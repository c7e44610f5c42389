/- assayerref1.Digits: a number's numeral. Numerals, plainly: a text is a number's own text. assayerref1.NumberOf. -/
import Derived.Test.YtalbllijahiiiaaGreatDoorDkAW
import Derived.Laws.IdiomStrings
import Derived.Lib.ItoaMem
section
namespace Go.Proofs.YtalbllijahiiiaaGreatDoor
open Go.RowKit Go.Mine Go.Mine.Desk

theorem dig_conv (n : Nat) (hn : n < 10) (w : World) : (convert 76 9 (.slice (some ⟨w.heap.size, 0, none⟩) 1 1)).run Tryz.prog (w.alloc (.cells #[.int .u8 (48 + (n : Int))] 5)) = .ok (str (Go.Lib.decDigits n)) (w.alloc (.cells #[.int .u8 (48 + (n : Int))] 5)) := by
  have h := run_convert_bytes_back (P := Tryz.prog) (w.alloc (.cells #[.int .u8 (48 + (n : Int))] 5)) 76 9 5 ⟨w.heap.size, 0, none⟩ 1 [UInt8.ofNat (48 + n)] (by kernel_rfl) (by kernel_rfl) (by kernel_rfl) (fun j hj => by
    obtain rfl : j = 0 := by simpa using hj
    have e : (UInt8.ofNat (48 + n)).toNat = 48 + n := by rw [UInt8.toNat_ofNat']; omega
    have h2 := World.cell?_alloc_mark w #[.int .u8 (48 + (n : Int))] 5 (0, 0) 0
    simp only [Addr.add, Nat.add_zero, List.getElem_cons_zero, e, ite_self]
    rw [h2]
    simp)
  rw [Go.Lib.decDigits_one hn]
  exact h
theorem Digits_one (n : Nat) (hn : n < 10) (w : World) : Calls Tryz.prog 14 #[.int .i64 (n : Int)] w fun e w' => e = .returned (str (Go.Lib.decDigits n)) ∧ Below w.heap.size w w' := by
  have d1 : decide ((n : Int) < 0) = false := decide_eq_false (by omega)
  have d2 : decide ((n : Int) < 10) = true := decide_eq_true (by omega)
  have hc := dig_conv n hn w
  have hw : IntKind.i64.wrap (48 + (n : Int)) = 48 + (n : Int) := IntWalk.i64_in _ (by omega)
  have hu : IntKind.u8.wrap (48 + (n : Int)) = 48 + (n : Int) := by simp [IntKind.wrap, IntKind.bits, IntKind.signed]; omega
  go_enter Tryz.func14, Tryz.ntmps14
  go_wp2_with fail
  go_ret
  exact ⟨rfl, ((Below.refl _ _).alloc (Nat.le_refl _) _)⟩
theorem decDigits_step (n : Nat) (hn : ¬ n < 10) : Go.Lib.decDigits n = Go.Lib.decDigits (n / 10) ++ Go.Lib.decDigits (n % 10) := by
  conv => lhs; rw [Go.Lib.decDigits, dif_neg hn]
  rw [Go.Lib.decDigits_one (Nat.mod_lt _ (by omega))]
theorem digits_len (n : Nat) (h : n < 10 ^ 20) : (Go.Lib.decDigits n).length ≤ 20 := by
  have go : ∀ (k n : Nat), n < 10 ^ (k + 1) → (Go.Lib.decDigits n).length ≤ k + 1 := by
    intro k
    induction k with
    | zero => intro n h; rw [Go.Lib.decDigits_one (by omega)]; simp
    | succ k ih =>
      intro n h
      by_cases h10 : n < 10
      · rw [Go.Lib.decDigits_one h10]; simp
      · rw [decDigits_step n h10, List.length_append, Go.Lib.decDigits_one (Nat.mod_lt _ (by omega))]
        have := ih (n / 10) (by rw [Nat.pow_succ] at h; omega)
        simp
        omega
  exact go 19 n h
theorem Digits_nat : ∀ (n : Nat), n < 9223372036854775809 → ∀ (w : World), n < 9223372036854775808 → Calls Tryz.prog 14 #[.int .i64 (n : Int)] w fun e w' => e = .returned (str (Go.Lib.decDigits n)) ∧ Below w.heap.size w w' := by
  intro n
  induction n using Nat.strongRecOn with
  | ind n ih =>
    intro _ w hn
    by_cases h10 : n < 10
    · exact Digits_one n h10 w
    · obtain ⟨q, hq⟩ : ∃ q, q = n / 10 := ⟨_, rfl⟩
      obtain ⟨r, hr⟩ : ∃ r, r = n % 10 := ⟨_, rfl⟩
      have HI := Lib.hid (ih q (by omega) (by omega) w (by omega))
      have d1 : decide ((n : Int) < 0) = false := decide_eq_false (by omega)
      have d2 : decide ((n : Int) < 10) = false := decide_eq_false (by omega)
      have hq1 : Int.tdiv (n : Int) 10 = (q : Int) := by rw [Int.tdiv_eq_ediv_of_nonneg (by omega)]; omega
      have hr1 : Int.tmod (n : Int) 10 = (r : Int) := by rw [Int.tmod_eq_emod_of_nonneg (by omega)]; omega
      have hq2 : IntKind.i64.wrap (q : Int) = (q : Int) := IntWalk.i64_in _ (by omega)
      have hr2 : IntKind.i64.wrap (r : Int) = (r : Int) := IntWalk.i64_in _ (by omega)
      have HE := Lib.hid (show Go.Lib.decDigits n = Go.Lib.decDigits q ++ Go.Lib.decDigits r by rw [decDigits_step n h10, hq, hr])
      have hlq := digits_len q (by omega)
      have hlr := digits_len r (by omega)
      have hr10 : r < 10 := by omega
      clear ih hq hr
      obtain ⟨xq, hxq⟩ : ∃ x, x = Go.Lib.decDigits q := ⟨_, rfl⟩
      obtain ⟨xr, hxr⟩ : ∃ x, x = Go.Lib.decDigits r := ⟨_, rfl⟩
      rw [← hxq] at hlq HI HE
      rw [← hxr] at hlr HE
      have HXR := Lib.hid hxr
      clear hxq hxr
      have hl : ¬ 9223372036854775807 < xq.length + xr.length := by omega
      go_enter Tryz.func14, Tryz.ntmps14
      go_wp2_with fail
      refine HI.out.mono ?_
      clear HI
      rintro e w1 ⟨rfl, hb1⟩
      have HB := Lib.hid hb1
      have HR := Lib.hid (Digits_one r hr10 w1)
      rw [← HXR.out] at HR
      clear hb1
      go_wp2_with fail
      refine HR.out.mono ?_
      clear HR
      rintro e w2 ⟨rfl, hb2⟩
      have HB2 := Lib.hid (HB.out.trans (hb2.mono HB.out.size))
      clear hb2
      go_wp2_with fail
      go_ret
      refine ⟨?_, HB2.out⟩
      rw [HE.out]
      exact congrArg (fun b => Ending.returned (.string b)) (cat_text xq xr)
theorem Digits_neg : ∀ (u : Nat), 1 ≤ u → u ≤ 9223372036854775808 → ∀ (w : World), Calls Tryz.prog 14 #[.int .i64 (-(u : Int))] w fun e w' => e = .returned (str (45 :: Go.Lib.decDigits u)) ∧ Below w.heap.size w w' := by
  intro u
  induction u using Nat.strongRecOn with
  | ind u ih =>
    intro h1 hu w
    obtain ⟨n, hn⟩ : ∃ n : Int, n = -(u : Int) := ⟨_, rfl⟩
    obtain ⟨q, hq⟩ : ∃ q, q = u / 10 := ⟨_, rfl⟩
    obtain ⟨r, hr⟩ : ∃ r, r = u % 10 := ⟨_, rfl⟩
    obtain ⟨z, hz⟩ : ∃ z : Int, z = -(r : Int) := ⟨_, rfl⟩
    obtain ⟨y, hy⟩ : ∃ y : Int, y = -(q : Int) := ⟨_, rfl⟩
    rw [← hn]
    have hq1 : Int.tdiv n 10 = y := by rw [hn, Int.neg_tdiv, Int.tdiv_eq_ediv_of_nonneg (by omega)]; omega
    have hr1 : Int.tmod n 10 = z := by rw [hn, Int.neg_tmod, Int.tmod_eq_emod_of_nonneg (by omega)]; omega
    have hq2 : IntKind.i64.wrap y = y := IntWalk.i64_in _ (by omega)
    have hr2 : IntKind.i64.wrap z = z := IntWalk.i64_in _ (by omega)
    have hz2 : IntKind.i64.wrap (0 - z) = (r : Int) := by rw [IntWalk.i64_in _ (by omega)]; omega
    have hz3 : IntKind.i64.wrap (-z) = (r : Int) := by rw [IntWalk.i64_in _ (by omega)]; omega
    have d1 : decide (n < 0) = true := decide_eq_true (by omega)
    have hr10 : r < 10 := by omega
    by_cases h10 : u < 10
    · have hy0 : y = 0 := by omega
      have HE := Lib.hid (show Go.Lib.decDigits u = Go.Lib.decDigits r by rw [hr, Nat.mod_eq_of_lt h10])
      have HR := Lib.hid (Digits_one r hr10 w)
      have hlr := digits_len r (by omega)
      obtain ⟨xr, hxr⟩ : ∃ x, x = Go.Lib.decDigits r := ⟨_, rfl⟩
      rw [← hxr] at hlr HE HR
      have hl : ¬ 9223372036854775807 < 1 + xr.length := by omega
      subst hy0
      clear ih hq hr hn hz hy hxr
      go_enter Tryz.func14, Tryz.ntmps14
      go_wp2_with fail
      refine HR.out.mono ?_
      clear HR
      rintro e w2 ⟨rfl, hb2⟩
      have HB2 := Lib.hid hb2
      clear hb2
      go_wp2_with fail
      go_ret
      refine ⟨?_, HB2.out⟩
      rw [HE.out]
      exact congrArg (fun b => Ending.returned (.string b)) (cat_text [45] xr)
    · have hy0 : ¬ y = 0 := by omega
      have HI := Lib.hid (ih q (by omega) (by omega) (by omega) w)
      rw [← hy] at HI
      have HE := Lib.hid (show Go.Lib.decDigits u = Go.Lib.decDigits q ++ Go.Lib.decDigits r by rw [decDigits_step u h10, hq, hr])
      have hlq := digits_len q (by omega)
      have hlr := digits_len r (by omega)
      obtain ⟨xq, hxq⟩ : ∃ x, x = Go.Lib.decDigits q := ⟨_, rfl⟩
      obtain ⟨xr, hxr⟩ : ∃ x, x = Go.Lib.decDigits r := ⟨_, rfl⟩
      rw [← hxq] at hlq HI HE
      rw [← hxr] at hlr HE
      have HXR := Lib.hid hxr
      clear ih hq hr hn hz hy hxq hxr
      have hl : ¬ 9223372036854775807 < xq.length + 1 + xr.length := by omega
      go_enter Tryz.func14, Tryz.ntmps14
      go_wp2_with fail
      refine HI.out.mono ?_
      clear HI
      rintro e w1 ⟨rfl, hb1⟩
      have HB := Lib.hid hb1
      have HR := Lib.hid (Digits_one r hr10 w1)
      rw [← HXR.out] at HR
      clear hb1
      go_wp2_with fail
      refine HR.out.mono ?_
      clear HR
      rintro e w2 ⟨rfl, hb2⟩
      have HB2 := Lib.hid (HB.out.trans (hb2.mono HB.out.size))
      clear hb2
      go_wp2_with fail
      go_ret
      refine ⟨?_, HB2.out⟩
      rw [HE.out]
      exact congrArg (fun b => Ending.returned (.string b)) (cat_text (45 :: xq) xr)
theorem Digits_any (n : Int) (hn : i64ok n) (w : World) : Calls Tryz.prog 14 #[.int .i64 n] w fun e w' => e = .returned (str (Go.Lib.itoa n)) ∧ Below w.heap.size w w' := by
  unfold i64ok at hn
  by_cases h : n < 0
  · obtain ⟨u, hu⟩ : ∃ u : Nat, n = -(u : Int) := ⟨n.natAbs, by omega⟩
    subst hu
    rw [Go.Lib.itoa_neg u (by omega)]
    exact Digits_neg u (by omega) (by omega) w
  · obtain ⟨u, rfl⟩ := Int.eq_ofNat_of_zero_le (show 0 ≤ n by omega)
    rw [Go.Lib.itoa_nonneg]
    exact Digits_nat u (by omega) w (by omega)
end Go.Proofs.YtalbllijahiiiaaGreatDoor
end

section
namespace Go.Proofs.YtalbllijahiiiaaGreatDoor
open Go.RowKit Go.Mine Go.Mine.Desk

theorem dec_digit : ∀ (u : Nat), ∀ c ∈ Go.Lib.decDigits u, 48 ≤ c.toNat ∧ c.toNat ≤ 57 := by
  intro u
  induction u using Nat.strongRecOn with
  | ind u ih =>
    intro c hc
    have one : ∀ d, d < 10 → c ∈ Go.Lib.decDigits d → 48 ≤ c.toNat ∧ c.toNat ≤ 57 := fun d hd hc => by
      rw [Go.Lib.decDigits_one hd, List.mem_singleton] at hc
      subst hc
      rw [UInt8.toNat_ofNat']
      omega
    by_cases h : u < 10
    · exact one u h hc
    · rw [decDigits_step u h, List.mem_append] at hc
      rcases hc with hc | hc
      · exact ih (u / 10) (by omega) c hc
      · exact one _ (Nat.mod_lt _ (by omega)) hc
theorem dec_ne (u : Nat) : Go.Lib.decDigits u ≠ [] := by
  intro h
  have := Go.Lib.nDigits_pos u
  rw [← Go.Lib.decDigits_length, h] at this
  simp at this
theorem parse_append (c : UInt8) : ∀ (l : Bytes) (acc u : Nat), Go.Lib.parseUint10 acc l = .ok u → Go.Lib.parseUint10 acc (l ++ [c]) = Go.Lib.parseUint10 u [c]
  | [], acc, u, h => by
    simp only [Go.Lib.parseUint10] at h
    injection h with h
    rw [h]; rfl
  | x :: l, acc, u, h => by
    rw [List.cons_append]
    simp only [Go.Lib.parseUint10] at h ⊢
    split at h
    · split at h
      · cases h
      · split at h
        · cases h
        · rename_i h1 h2 h3
          rw [if_pos h1, if_neg h2, if_neg h3]
          exact parse_append c l _ u h
    · cases h
theorem parse_dec : ∀ (u : Nat), u < 18446744073709551616 → Go.Lib.parseUint10 0 (Go.Lib.decDigits u) = .ok u := by
  intro u
  induction u using Nat.strongRecOn with
  | ind u ih =>
    intro hu
    have one : ∀ (acc d : Nat), d < 10 → acc < 1844674407370955162 → acc * 10 + d < 18446744073709551616 → Go.Lib.parseUint10 acc [UInt8.ofNat (48 + d)] = .ok (acc * 10 + d) := fun acc d hd ha hs => by
      have e : (UInt8.ofNat (48 + d)).toNat = 48 + d := by rw [UInt8.toNat_ofNat']; omega
      simp only [Go.Lib.parseUint10, e]
      rw [if_pos (by omega), if_neg (by omega), if_neg (by omega)]
      congr 1
      omega
    by_cases h : u < 10
    · rw [Go.Lib.decDigits_one h, one 0 u h (by omega) (by omega)]
      congr 1
      omega
    · rw [decDigits_step u h, Go.Lib.decDigits_one (Nat.mod_lt _ (by omega)), parse_append _ _ _ _ (ih (u / 10) (by omega) (by omega)), one _ _ (Nat.mod_lt _ (by omega)) (by omega) (by omega)]
      congr 1
      omega
theorem atoi_itoa {n : Int} (hn : i64ok n) : Go.Lib.atoiAll (Go.Lib.itoa n) = .ok n := by
  unfold i64ok at hn
  by_cases h : n < 0
  · obtain ⟨u, rfl⟩ : ∃ u : Nat, n = -(u : Int) := ⟨n.natAbs, by omega⟩
    rw [Go.Lib.itoa_neg u (by omega)]
    unfold Go.Lib.atoiAll
    have e : ((45 : UInt8).toNat = 43 ∨ (45 : UInt8).toNat = 45) := .inr rfl
    simp only [e, if_true]
    unfold Go.Lib.parseMag
    rw [if_neg (dec_ne u), parse_dec u (by omega)]
    have e2 : (45 : UInt8).toNat = 45 := rfl
    simp only [e2, not_true, false_and, if_false, true_and, if_true]
    rw [if_neg (by omega)]
  · obtain ⟨u, rfl⟩ := Int.eq_ofNat_of_zero_le (show 0 ≤ n by omega)
    rw [Go.Lib.itoa_nonneg]
    have hne := dec_ne u
    have hdg := dec_digit u
    have hp := parse_dec u (by omega)
    cases hd : Go.Lib.decDigits u with
    | nil => exact absurd hd hne
    | cons c r =>
      rw [hd] at hdg hp
      obtain ⟨h1, h2⟩ := hdg c (List.mem_cons_self)
      unfold Go.Lib.atoiAll Go.Lib.parseMag
      have e1 : ¬ c.toNat = 43 := by omega
      have e2 : ¬ c.toNat = 45 := by omega
      simp only [e1, e2, or_self, if_false, not_false_eq_true, true_and, false_and, if_neg (show ¬ (c :: r) = [] by simp), hp]
      rw [if_neg (by omega)]
theorem numV_iff {s : Bytes} {v : Int} : numV s = some v ↔ i64ok v ∧ Go.Lib.itoa v = s := by
  constructor
  · intro h
    unfold numV at h
    split at h
    · rename_i x hx
      split at h
      · rename_i hs
        cases h
        obtain ⟨h1, h2⟩ := Go.Lib.atoiAll_bounds hx
        exact ⟨⟨by omega, by omega⟩, hs⟩
      · cases h
    · cases h
  · rintro ⟨h1, rfl⟩
    unfold numV
    rw [atoi_itoa h1]
    simp
def nstep (neg : Bool) (acc : Int) (c : UInt8) : Int := if neg then wrap64 (wrap64 (10 * acc) - ((c.toNat : Int) - 48)) else wrap64 (wrap64 (10 * acc) + ((c.toNat : Int) - 48))
def nfold (neg : Bool) (acc : Int) (l : Bytes) : Int := l.foldl (nstep neg) acc
theorem wrap64_ok (n : Int) : i64ok (wrap64 n) := by unfold wrap64 i64ok; omega
theorem nfold_ok (neg : Bool) : ∀ (l : Bytes) (acc : Int), i64ok acc → i64ok (nfold neg acc l)
  | [], _, h => h
  | c :: l, acc, _ => nfold_ok neg l _ (by unfold nstep; split <;> exact wrap64_ok _)
theorem nfold_snoc (neg : Bool) (acc : Int) (l : Bytes) (c : UInt8) : nfold neg acc (l ++ [c]) = nstep neg (nfold neg acc l) c := by unfold nfold; rw [List.foldl_append]; rfl
theorem nfold_dec (neg : Bool) : ∀ (u : Nat), (neg = true → u ≤ 9223372036854775808) → (neg = false → u < 9223372036854775808) → nfold neg 0 (Go.Lib.decDigits u) = if neg then -(u : Int) else u := by
  intro u
  induction u using Nat.strongRecOn with
  | ind u ih =>
    intro h1 h2
    have one : ∀ (a : Nat) (d : Nat), d < 10 → (neg = true → a * 10 + d ≤ 9223372036854775808) → (neg = false → a * 10 + d < 9223372036854775808) → nstep neg (if neg then -(a : Int) else a) (UInt8.ofNat (48 + d)) = if neg then -((a * 10 + d : Nat) : Int) else ((a * 10 + d : Nat) : Int) := fun a d hd g1 g2 => by
      have e : (UInt8.ofNat (48 + d)).toNat = 48 + d := by rw [UInt8.toNat_ofNat']; omega
      unfold nstep
      rw [e]
      cases neg with
      | true => have := g1 rfl; simp only [if_true]; unfold wrap64; omega
      | false => have := g2 rfl; simp only [Bool.false_eq_true, if_false]; unfold wrap64; omega
    by_cases h : u < 10
    · rw [Go.Lib.decDigits_one h]
      have h0 := one 0 u h (by omega) (by omega)
      simp only [Nat.zero_mul, Nat.zero_add] at h0
      rw [← h0]
      unfold nfold
      cases neg <;> simp
    · rw [decDigits_step u h, Go.Lib.decDigits_one (Nat.mod_lt _ (by omega)), nfold_snoc, ih (u / 10) (by omega) (by intro hh; have := h1 hh; omega) (by intro hh; have := h2 hh; omega), one _ _ (Nat.mod_lt _ (by omega)) (by intro hh; have := h1 hh; omega) (by intro hh; have := h2 hh; omega)]
      rw [show u / 10 * 10 + u % 10 = u by omega]
def signK (s : Bytes) : Nat := if s.head? = some 45 then 1 else 0
def isNum (s : Bytes) (n : Int) (b : Bool) : Prop := (b = true → numV s = some n) ∧ (b = false → numV s = none)
theorem num_tail {s : Bytes} {v : Int} (h : numV s = some v) : ∃ u : Nat, s.drop (signK s) = Go.Lib.decDigits u ∧ s.length ≤ 20 ∧ v = (if signK s = 1 then -(u : Int) else (u : Int)) ∧ (signK s = 1 → u ≤ 9223372036854775808) ∧ (signK s ≠ 1 → u < 9223372036854775808) := by
  obtain ⟨h1, h2⟩ := numV_iff.1 h
  unfold i64ok at h1
  by_cases hv : v < 0
  · obtain ⟨u, rfl⟩ : ∃ u : Nat, v = -(u : Int) := ⟨v.natAbs, by omega⟩
    rw [Go.Lib.itoa_neg u (by omega)] at h2
    have hk : signK s = 1 := by rw [← h2]; rfl
    have hl : (Go.Lib.decDigits u).length ≤ 19 := by
      have go : ∀ (k n : Nat), n < 10 ^ (k + 1) → (Go.Lib.decDigits n).length ≤ k + 1 := by
        intro k
        induction k with
        | zero => intro n h; rw [Go.Lib.decDigits_one (by omega)]; simp
        | succ k ih =>
          intro n h
          by_cases h10 : n < 10
          · rw [Go.Lib.decDigits_one h10]; simp
          · rw [decDigits_step n h10, List.length_append, Go.Lib.decDigits_one (Nat.mod_lt _ (by omega))]
            have := ih (n / 10) (by rw [Nat.pow_succ] at h; omega)
            simp
            omega
      exact go 18 u (by omega)
    refine ⟨u, by rw [hk, ← h2]; rfl, by rw [← h2, List.length_cons]; omega, by rw [if_pos hk], fun _ => by omega, fun hn => absurd hk hn⟩
  · obtain ⟨u, rfl⟩ := Int.eq_ofNat_of_zero_le (show 0 ≤ v by omega)
    rw [Go.Lib.itoa_nonneg] at h2
    have hk : signK s = 0 := by
      unfold signK
      rw [if_neg]
      intro hh
      rw [← h2] at hh
      have := dec_digit u 45 (List.mem_of_mem_head? hh)
      have e : (45 : UInt8).toNat = 45 := rfl
      omega
    refine ⟨u, by rw [hk, ← h2]; rfl, by rw [← h2]; exact digits_len u (by omega), by rw [if_neg (by omega)], fun hh => by omega, fun _ => by omega⟩
theorem num_long {s : Bytes} (h : 20 < s.length) (n : Int) : isNum s n false := ⟨(fun hh => by cases hh), fun _ => by
  cases hv : numV s with
  | none => rfl
  | some v => obtain ⟨u, _, hl, _⟩ := num_tail hv; omega⟩
theorem num_bad {s : Bytes} {i : Nat} {x : UInt8} (hk : signK s ≤ i) (hx : s[i]? = some x) (hd : x.toNat < 48 ∨ 57 < x.toNat) (n : Int) : isNum s n false := ⟨(fun hh => by cases hh), fun _ => by
  cases hv : numV s with
  | none => rfl
  | some v =>
    obtain ⟨u, ht, _⟩ := num_tail hv
    have hm : x ∈ Go.Lib.decDigits u := by
      rw [← ht]
      refine List.mem_of_getElem? (i := i - signK s) ?_
      rw [List.getElem?_drop, show signK s + (i - signK s) = i by omega, hx]
    have := dec_digit u x hm
    omega⟩
theorem num_end {s : Bytes} {n : Int} (hn : n = nfold (decide (signK s = 1)) 0 (s.drop (signK s))) : isNum s n (Go.Lib.itoa n == s) := by
  have h64 : i64ok n := by rw [hn]; exact nfold_ok _ _ _ (by unfold i64ok; omega)
  constructor
  · intro h
    exact numV_iff.2 ⟨h64, by simpa using h⟩
  · intro h
    cases hv : numV s with
    | none => rfl
    | some v =>
      obtain ⟨u, ht, _, hv2, h1, h2⟩ := num_tail hv
      rw [ht, nfold_dec _ u (fun hh => h1 (by simpa using hh)) (fun hh => h2 (by simpa using hh))] at hn
      have e : n = v := by
        rw [hn, hv2]
        by_cases hk : signK s = 1 <;> simp [hk]
      rw [e, (numV_iff.1 hv).2] at h
      simp at h
end Go.Proofs.YtalbllijahiiiaaGreatDoor
end

section
namespace Go.Proofs.YtalbllijahiiiaaGreatDoor
open Go.RowKit Go.Mine Go.Mine.Desk

def NumPost (s : Bytes) (w : World) (e : Ending) (w' : World) : Prop := (∃ n b, e = .returned (.tuple #[.int .i64 n, .bool b]) ∧ i64ok n ∧ isNum s n b) ∧ Below w.heap.size w w'
structure NI (s : Bytes) (k : Nat) (neg : Bool) (n : Int) (i : Nat) : Prop where
  ki : k ≤ i
  le : i ≤ s.length
  eq : n = nfold neg 0 ((s.drop k).take (i - k))
theorem NI.start {s : Bytes} {k : Nat} (h : k ≤ s.length) (neg : Bool) : NI s k neg 0 k := ⟨Nat.le_refl _, h, by simp [nfold]⟩
theorem NI.next {s : Bytes} {k i : Nat} {neg : Bool} {n : Int} {x : UInt8} (h : NI s k neg n i) (hx : s[i]? = some x) : NI s k neg (nstep neg n x) (i + 1) := by
  obtain ⟨hl, _⟩ := List.getElem?_eq_some_iff.1 hx
  have := h.ki
  refine ⟨by omega, hl, ?_⟩
  rw [show i + 1 - k = (i - k) + 1 by omega, List.take_add_one, List.getElem?_drop, show k + (i - k) = i by omega, hx, Option.toList_some, nfold_snoc, ← h.eq]
theorem byte_run (s : Bytes) (i : Nat) (x : UInt8) (hx : s[i]? = some x) (w : World) : (Instr.index 9 (str s) (.int .i64 (i : Int))).run Tryz.prog w = .ok (.int .u8 (x.toNat : Int)) w := by
  obtain ⟨h1, h2⟩ := List.getElem?_eq_some_iff.1 hx
  have hi : (0 : Int) ≤ (i : Int) ∧ (i : Int) < (⟨s.toArray⟩ : ByteArray).size := by simp [ByteArray.size]; exact h1
  have := run_index_string (P := Tryz.prog) (w := w) 9 ⟨s.toArray⟩ .i64 (i : Int) (by kernel_rfl)
  rw [this, dif_pos hi]
  have e : (⟨s.toArray⟩ : ByteArray)[(i : Int).toNat]'(by simpa [ByteArray.size] using h1) = x := by rw [← h2]; rfl
  rw [e]
theorem num_walk (s : Bytes) (w : World) : Calls Tryz.prog 20 #[str s] w (NumPost s w) := by
  by_cases hlen : 20 < s.length
  · have d1 : decide (20 < (s.length : Int)) = true := decide_eq_true (by omega)
    have HP := Lib.hid (num_long hlen 0)
    go_enter Tryz.func20, Tryz.ntmps20
    go_wp2_with fail
    go_ret2
    exact ⟨⟨_, _, rfl, by unfold i64ok; omega, HP.out⟩, Below.refl _ _⟩
  · have d1 : decide (20 < (s.length : Int)) = false := decide_eq_false (by omega)
    by_cases hk : signK s = 1
    · have hx0 : s[0]? = some 45 := by
        unfold signK at hk
        split at hk
        · rename_i h; rw [← List.head?_eq_getElem?, h]
        · cases hk
      have hl0 : 0 < s.length := (List.getElem?_eq_some_iff.1 hx0).1
      have d2 : decide (0 < (s.length : Int)) = true := decide_eq_true (by omega)
      have hb0 : ∀ w, (Instr.index 9 (str s) (.int .i64 0)).run Tryz.prog w = .ok (.int .u8 45) w := fun w => byte_run s 0 45 hx0 w
      have HS := Lib.hid hk
      clear hx0 hk
      go_enter Tryz.func20, Tryz.ntmps20
      go_wp2_with fail
      go_loopw [4, 6] (fun nv iv wr => ∃ (n : Int) (i : Nat), nv = .int .i64 n ∧ iv = .int .i64 (i : Int) ∧ i ≤ s.length ∧ wr = w ∧ RowKit.Hid (NI s 1 true n i)) (fun _ iv _ => s.length - (intOf iv).toNat)
      case atStart => exact ⟨0, 1, by simp, by simp, by omega, rfl, Lib.hid (NI.start (by omega) _)⟩
      case round =>
        obtain ⟨n, i, rfl, rfl, hi, rfl, HK⟩ := hrel
        have hki := HK.out.ki
        rcases Nat.lt_or_ge i s.length with hlt | hge
        · obtain ⟨x, hx⟩ : ∃ x, s[i]? = some x := ⟨s[i], by simp [hlt]⟩
          have hi1 : (i : Int) < (s.length : Int) := by omega
          have hw1 : IntKind.i64.wrap ((i : Int) + 1) = ((i + 1 : Nat) : Int) := by rw [IntWalk.i64_in _ (by omega)]; omega
          have hbx := byte_run s i x hx
          have hxb : x.toNat < 256 := x.toNat_lt
          by_cases hlo : x.toNat < 48
          · have e1 : decide ((x.toNat : Int) < 48) = true := decide_eq_true (by omega)
            have HN := Lib.hid (num_bad (by rw [HS.out]; exact hki) hx (.inl hlo) 0)
            go_wp2_with fail
            go_ret2
            exact ⟨⟨_, _, rfl, by unfold i64ok; omega, HN.out⟩, Below.refl _ _⟩
          · have e1 : decide ((x.toNat : Int) < 48) = false := decide_eq_false (by omega)
            by_cases hhi : 57 < x.toNat
            · have e2 : decide (57 < (x.toNat : Int)) = true := decide_eq_true (by omega)
              have HN := Lib.hid (num_bad (by rw [HS.out]; exact hki) hx (.inr hhi) 0)
              go_wp2_with fail
              go_ret2
              exact ⟨⟨_, _, rfl, by unfold i64ok; omega, HN.out⟩, Below.refl _ _⟩
            · have e2 : decide (57 < (x.toNat : Int)) = false := decide_eq_false (by omega)
              have hu : IntKind.u8.wrap ((x.toNat : Int) - 48) = (x.toNat : Int) - 48 := IntWalk.u8_in _ (by omega)
              have HN := Lib.hid (HK.out.next hx)
              clear hx
              go_wp2_with fail
              go_roundw
              case rel => exact ⟨_, i + 1, rfl, by go_num, by omega, by first | trivial | rfl, HN⟩
              case measure => simp [intOf]; omega
        · have hil : i = s.length := by omega
          subst hil
          have HE := Lib.hid (show isNum s n (Go.Lib.itoa n == s) from num_end (by rw [HS.out]; have h := HK.out.eq; rw [List.take_of_length_le (by simp)] at h; exact h))
          have h64 : i64ok n := by rw [HK.out.eq]; exact nfold_ok _ _ _ (by unfold i64ok; omega)
          have HD := Lib.hid (Digits_any n h64 wr)
          have HO := Lib.hid h64
          clear h64
          go_wp2_with fail
          refine HD.out.mono ?_
          clear HD
          rintro e w1 ⟨rfl, hb1⟩
          have HB := Lib.hid hb1
          clear hb1
          go_wp2_with fail
          go_ret2
          exact ⟨⟨_, _, rfl, HO.out, HE.out⟩, HB.out⟩
    · have hk0 : signK s = 0 := by
        unfold signK at hk ⊢
        split at hk
        · exact absurd rfl hk
        · rename_i h; rw [if_neg h]
      have HS := Lib.hid hk0
      rcases Nat.eq_zero_or_pos s.length with hz | hl0
      · have d2 : decide (0 < (s.length : Int)) = false := decide_eq_false (by omega)
        clear hk hk0
        go_enter Tryz.func20, Tryz.ntmps20
        go_wp2_with fail
        go_loopw [4, 6] (fun nv iv wr => ∃ (n : Int) (i : Nat), nv = .int .i64 n ∧ iv = .int .i64 (i : Int) ∧ i ≤ s.length ∧ wr = w ∧ RowKit.Hid (NI s 0 false n i)) (fun _ iv _ => s.length - (intOf iv).toNat)
        case atStart => exact ⟨0, 0, by simp, by simp, by omega, rfl, Lib.hid (NI.start (by omega) _)⟩
        case round =>
          obtain ⟨n, i, rfl, rfl, hi, rfl, HK⟩ := hrel
          have hki := HK.out.ki
          rcases Nat.lt_or_ge i s.length with hlt | hge
          · exact absurd hlt (by omega)
          · have hil : i = s.length := by omega
            subst hil
            have HE := Lib.hid (show isNum s n (Go.Lib.itoa n == s) from num_end (by rw [HS.out]; have h := HK.out.eq; rw [List.take_of_length_le (by simp)] at h; exact h))
            have h64 : i64ok n := by rw [HK.out.eq]; exact nfold_ok _ _ _ (by unfold i64ok; omega)
            have HD := Lib.hid (Digits_any n h64 wr)
            have HO := Lib.hid h64
            clear h64
            go_wp2_with fail
            refine HD.out.mono ?_
            clear HD
            rintro e w1 ⟨rfl, hb1⟩
            have HB := Lib.hid hb1
            clear hb1
            go_wp2_with fail
            go_ret2
            exact ⟨⟨_, _, rfl, HO.out, HE.out⟩, HB.out⟩
      · have d2 : decide (0 < (s.length : Int)) = true := decide_eq_true (by omega)
        obtain ⟨c0, hc0⟩ : ∃ c, s[0]? = some c := ⟨s[0], by simp [hl0]⟩
        have hne : ¬ c0.toNat = 45 := fun h => by
          have : c0 = 45 := UInt8.toNat_inj.1 h
          subst this
          unfold signK at hk
          rw [List.head?_eq_getElem?, hc0, if_pos rfl] at hk
          exact hk rfl
        have hne' : ((c0.toNat : Int) == 45) = false := by rw [beq_eq_false_iff_ne]; omega
        have hb0 : ∀ w, (Instr.index 9 (str s) (.int .i64 0)).run Tryz.prog w = .ok (.int .u8 (c0.toNat : Int)) w := fun w => byte_run s 0 c0 hc0 w
        clear hk hk0 hc0
        go_enter Tryz.func20, Tryz.ntmps20
        go_wp2_with fail
        go_loopw [4, 6] (fun nv iv wr => ∃ (n : Int) (i : Nat), nv = .int .i64 n ∧ iv = .int .i64 (i : Int) ∧ i ≤ s.length ∧ wr = w ∧ RowKit.Hid (NI s 0 false n i)) (fun _ iv _ => s.length - (intOf iv).toNat)
        case atStart => exact ⟨0, 0, by simp, by simp, by omega, rfl, Lib.hid (NI.start (by omega) _)⟩
        case round =>
          obtain ⟨n, i, rfl, rfl, hi, rfl, HK⟩ := hrel
          have hki := HK.out.ki
          rcases Nat.lt_or_ge i s.length with hlt | hge
          · obtain ⟨x, hx⟩ : ∃ x, s[i]? = some x := ⟨s[i], by simp [hlt]⟩
            have hi1 : (i : Int) < (s.length : Int) := by omega
            have hw1 : IntKind.i64.wrap ((i : Int) + 1) = ((i + 1 : Nat) : Int) := by rw [IntWalk.i64_in _ (by omega)]; omega
            have hbx := byte_run s i x hx
            have hxb : x.toNat < 256 := x.toNat_lt
            by_cases hlo : x.toNat < 48
            · have e1 : decide ((x.toNat : Int) < 48) = true := decide_eq_true (by omega)
              have HN := Lib.hid (num_bad (by rw [HS.out]; exact hki) hx (.inl hlo) 0)
              go_wp2_with fail
              go_ret2
              exact ⟨⟨_, _, rfl, by unfold i64ok; omega, HN.out⟩, Below.refl _ _⟩
            · have e1 : decide ((x.toNat : Int) < 48) = false := decide_eq_false (by omega)
              by_cases hhi : 57 < x.toNat
              · have e2 : decide (57 < (x.toNat : Int)) = true := decide_eq_true (by omega)
                have HN := Lib.hid (num_bad (by rw [HS.out]; exact hki) hx (.inr hhi) 0)
                go_wp2_with fail
                go_ret2
                exact ⟨⟨_, _, rfl, by unfold i64ok; omega, HN.out⟩, Below.refl _ _⟩
              · have e2 : decide (57 < (x.toNat : Int)) = false := decide_eq_false (by omega)
                have hu : IntKind.u8.wrap ((x.toNat : Int) - 48) = (x.toNat : Int) - 48 := IntWalk.u8_in _ (by omega)
                have HN := Lib.hid (HK.out.next hx)
                clear hx
                go_wp2_with fail
                go_roundw
                case rel => exact ⟨_, i + 1, rfl, by go_num, by omega, by first | trivial | rfl, HN⟩
                case measure => simp [intOf]; omega
          · have hil : i = s.length := by omega
            subst hil
            have HE := Lib.hid (show isNum s n (Go.Lib.itoa n == s) from num_end (by rw [HS.out]; have h := HK.out.eq; rw [List.take_of_length_le (by simp)] at h; exact h))
            have h64 : i64ok n := by rw [HK.out.eq]; exact nfold_ok _ _ _ (by unfold i64ok; omega)
            have HD := Lib.hid (Digits_any n h64 wr)
            have HO := Lib.hid h64
            clear h64
            go_wp2_with fail
            refine HD.out.mono ?_
            clear HD
            rintro e w1 ⟨rfl, hb1⟩
            have HB := Lib.hid hb1
            clear hb1
            go_wp2_with fail
            go_ret2
            exact ⟨⟨_, _, rfl, HO.out, HE.out⟩, HB.out⟩
end Go.Proofs.YtalbllijahiiiaaGreatDoor
end
