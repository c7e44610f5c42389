import Derived.Test.YtkdfikjfbbnekaaDoorRows
import Derived.Test.YtkdfikjfbbnekaaDoorInts
import Derived.Test.YtkdfikjfbbnekaaDoorP
namespace Go.Proofs.YtkdfikjfbbnekaaDoor
open Go.RowKit Go.Mine Go.Mine.Inter

/-- Lens that are right. -/
def ok (xs : List Int) : Prop := xs.length ≤ 6 ∧ (∀ x ∈ xs, 0 ≤ x ∧ x ≤ 8) ∧ xs.sum ≤ 20

/-- What is wrong with lens, as a number. -/
def fault (xs : List Int) : Int := if 6 < xs.length then 4 else if ∀ x ∈ xs, 0 ≤ x ∧ x ≤ 8 then (if 20 < xs.sum then 4 else 0) else 1
theorem fault_ok {xs : List Int} (h : ok xs) : fault xs = 0 := by
  obtain ⟨h1, h2, h3⟩ := h
  unfold fault
  rw [if_neg (by omega), if_pos h2, if_neg (by omega)]
theorem fault_bad {xs : List Int} (h : ¬ ok xs) : fault xs = 1 ∨ fault xs = 4 := by
  unfold fault
  split
  · exact .inr rfl
  · split
    · split
      · exact .inr rfl
      · exact absurd ⟨by omega, by assumption, by omega⟩ h
    · exact .inl rfl
theorem fault_long {xs : List Int} (h : 6 < xs.length) : 4 = fault xs := by unfold fault; rw [if_pos h]
theorem fault_range {xs : List Int} (h : ¬ 6 < xs.length) {x : Int} (hm : x ∈ xs) (hb : ¬ (0 ≤ x ∧ x ≤ 8)) : 1 = fault xs := by
  unfold fault
  rw [if_neg h, if_neg (fun h => hb (h x hm))]
theorem fault_sum {xs : List Int} (h : ¬ 6 < xs.length) (hm : ∀ x ∈ xs, 0 ≤ x ∧ x ≤ 8) (hb : 20 < xs.sum) : 4 = fault xs := by
  unfold fault
  rw [if_neg h, if_pos hm, if_pos hb]
/-- What check answers. -/
def CheckPost (xs : List Int) (e : Ending) : Prop := (ok xs ∧ e = .returned .nilIface) ∨ (¬ ok xs ∧ ∃ c, e = .returned (.iface 24 (.int .i64 c)) ∧ c = fault xs)

theorem sum_bound : ∀ (xs : List Int), (∀ x ∈ xs, 0 ≤ x ∧ x ≤ 8) → 0 ≤ xs.sum ∧ xs.sum ≤ 8 * xs.length
  | [], _ => by simp
  | x :: xs, h => by
    have h1 := h x (by simp)
    have h2 := sum_bound xs (fun y hy => h y (by simp [hy]))
    simp
    omega

set_option maxHeartbeats 400000 in
theorem check_any (xs : List Int) (ao : Option Addr) (cap : Nat) (w : World) (hx : IntsAt .i64 w ao xs) (hl : xs.length ≤ maxLen) :
    Calls Tryd.prog 14 #[.slice ao xs.length cap] w fun e w' => CheckPost xs e ∧ w = w' := by
  unfold maxLen at hl
  by_cases h6 : 6 < xs.length
  · have HX := Lib.hid hx; clear hx
    go_enter Tryd.func14, Tryd.ntmps14
    go_wp2
    go_ret
    exact ⟨.inr ⟨fun h => by have := h.1; omega, _, rfl, fault_long h6⟩, rfl⟩
  · have HX := Lib.hid hx; clear hx
    go_enter Tryd.func14, Tryd.ntmps14
    go_wp2
    go_loop [12, 3] (fun i a => ∃ k : Nat, k ≤ xs.length ∧ i = .int .i64 k ∧ a = .int .i64 (xs.take k).sum ∧ (∀ x ∈ xs.take k, 0 ≤ x ∧ x ≤ 8)) (fun i _ => xs.length - (intOf i).toNat)
    case atStart => exact ⟨0, by omega, rfl, by simp, by simp⟩
    case round =>
      obtain ⟨k, hk, rfl, rfl, hall⟩ := hrel
      have hsb := sum_bound _ hall
      have hlen : (xs.take k).length ≤ 6 := by rw [List.length_take]; omega
      have HALL := Lib.hid hall; clear hall
      by_cases hlt : k < xs.length
      · obtain ⟨b, o, rfl, hc⟩ := HX.out k hlt
        have hts : xs.take (k + 1) = xs.take k ++ [xs.getD k 0] := by rw [List.take_succ_eq_append_getElem hlt]; simp [hlt]
        obtain ⟨x, hx⟩ : ∃ x, x = xs.getD k 0 := ⟨_, rfl⟩
        have hmem : x ∈ xs := by rw [hx]; simp [hlt]
        rw [← hx] at hc hts
        have HTS := Lib.hid hts; clear hts
        have HXX := Lib.hid hx; clear hx
        obtain ⟨s, hs⟩ : ∃ s, s = (xs.take k).sum := ⟨_, rfl⟩
        rw [← hs] at hsb ⊢
        have HS := Lib.hid hs; clear hs
        by_cases h0 : x < 0
        · go_wp2
          go_ret
          exact ⟨.inr ⟨fun h => by have := h.2.1 x hmem; omega, _, rfl, fault_range h6 hmem (by omega)⟩, rfl⟩
        · by_cases h8 : 8 < x
          · go_wp2
            go_ret
            exact ⟨.inr ⟨fun h => by have := h.2.1 x hmem; omega, _, rfl, fault_range h6 hmem (by omega)⟩, rfl⟩
          · go_wp2
            go_round
            case rel =>
              refine ⟨k + 1, by omega, by go_num, ?_, ?_⟩
              · rw [HTS.out, List.sum_append, ← HS.out]; simp
              · rw [HTS.out]
                intro y hy
                rcases List.mem_append.1 hy with hy | hy
                · exact HALL.out y hy
                · simp at hy; subst hy; omega
            case measure => simp [intOf]; omega
      · have hkl : xs.take k = xs := List.take_of_length_le (by omega)
        rw [hkl]
        rw [hkl] at HALL hsb
        have HKL := Lib.hid hkl; clear hkl
        obtain ⟨s, hs⟩ : ∃ s, s = xs.sum := ⟨_, rfl⟩
        rw [← hs] at hsb ⊢
        have HS := Lib.hid hs; clear hs
        by_cases h20 : 20 < s
        · go_wp2
          go_ret
          exact ⟨.inr ⟨fun h => by have := h.2.2; rw [← HS.out] at this; omega, _, rfl, fault_sum h6 HALL.out (by rw [← HS.out]; exact h20)⟩, rfl⟩
        · go_wp2
          go_ret
          exact ⟨.inl ⟨⟨by omega, HALL.out, by rw [← HS.out]; omega⟩, rfl⟩, rfl⟩

/-- count, of right lens. -/
theorem fac20 : fac 20 = 2432902008176640000 := by decide +kernel

set_option maxHeartbeats 600000 in
theorem count_any (l : List Nat) (ao : Option Addr) (cap : Nat) (w : World) (hx : IntsAt .i64 w ao (l.map fun n : Nat => (n : Int))) (h20 : l.sum ≤ 20) (hl : l.length ≤ 6) :
    Calls Tryd.prog 15 #[.slice ao l.length cap] w fun e w' => e = .returned (.int .i64 (mult l)) ∧ w = w' := by
  have HX := Lib.hid hx; clear hx
  go_enter Tryd.func15, Tryd.ntmps15
  go_wp2
  go_loop [10, 3, 4] (fun i o a => ∃ k s out X : Nat, k ≤ l.length ∧ i = .int .i64 k ∧ o = .int .i64 out ∧ a = .int .i64 s ∧ out * X = fac s ∧ mult l = mulA s out (l.drop k) ∧ s + (l.drop k).sum = l.sum) (fun i _ _ => l.length - (intOf i).toNat)
  case atStart => exact ⟨0, 0, 1, 1, by omega, rfl, rfl, rfl, rfl, rfl, by simp⟩
  case round =>
    obtain ⟨k, s, out, X, hk, rfl, rfl, rfl, hX, hm, hs⟩ := hrel
    have HXX := Lib.hid hX; clear hX
    have HM := Lib.hid hm; clear hm
    have HS := Lib.hid hs; clear hs
    by_cases hlt : k < l.length
    · obtain ⟨b, o, rfl, hc⟩ := HX.out k (by simpa using hlt)
      have hd : l.drop k = l.getD k 0 :: l.drop (k + 1) := by rw [List.drop_eq_getElem_cons hlt]; simp [hlt]
      have hv : (l.map fun n : Nat => (n : Int)).getD k 0 = (l.getD k 0 : Nat) := by simp [hlt]
      rw [hv] at hc
      clear hv
      obtain ⟨n, hn⟩ : ∃ n, n = l.getD k 0 := ⟨_, rfl⟩
      rw [← hn] at hc hd
      have hsn : s + n + (l.drop (k + 1)).sum = l.sum := by have := HS.out; rw [hd] at this; simp at this; omega
      have hsn' : s + n ≤ 20 := by omega
      have HSN := Lib.hid hsn; clear hsn
      have HM2 := Lib.hid (show mult l = mulA (s + n) (out * c s n) (l.drop (k + 1)) by have := HM.out; rw [hd] at this; exact this)
      clear hd
      have HN := Lib.hid hn; clear hn
      go_wp2
      go_loop [15, 3, 4] (fun i o a => ∃ j out' s' : Nat, j ≤ n ∧ i = .int .i64 j ∧ o = .int .i64 out' ∧ a = .int .i64 s' ∧ out' = out * c s j ∧ s' = s + j) (fun i _ _ => n - (intOf i).toNat)
      case atStart => exact ⟨0, out, s, by omega, rfl, rfl, rfl, by rw [c_zero]; simp, rfl⟩
      case round =>
        obtain ⟨j, out', s', hj, rfl, rfl, rfl, ho', hs'⟩ := hrel
        have HO := Lib.hid ho'; clear ho'
        have HS' := Lib.hid hs'
        have hs'b : s' ≤ 20 := by omega
        clear hs'
        by_cases hjn : j < n
        · obtain ⟨p1, p2⟩ := inner out X s j 20 HXX.out (by omega)
          rw [fac20, ← HO.out, ← HS'.out] at p1
          rw [← HO.out, ← HS'.out] at p2
          obtain ⟨Q, hQ⟩ : ∃ Q, Q = out' * (s' + 1) := ⟨_, rfl⟩
          obtain ⟨R, hR⟩ : ∃ R, R = out * c s (j + 1) := ⟨_, rfl⟩
          rw [← hQ, ← hR] at p2
          rw [← hQ] at p1
          have q1 : (out' : Int) * ((s' : Int) + 1) = (Q : Int) := by rw [hQ]; simp
          have q2 : (Q : Int) / ((j : Int) + 1) = (R : Int) := by rw [← p2]; simp
          have HR := Lib.hid hR; clear hR
          have q3 : R ≤ Q := by rw [← p2]; exact Nat.div_le_self _ _
          clear hQ p2
          go_wp2
          go_round
          case rel => exact ⟨j + 1, R, s' + 1, by omega, by go_num, rfl, by go_num, HR.out, by have := HS'.out; omega⟩
          case measure => simp [intOf]; omega
        · have hjn' : j = n := by omega
          go_wp2
          go_round
          case rel => 
            refine ⟨k + 1, s', out', X * fac n, by omega, by go_num, rfl, rfl, ?_, ?_, ?_⟩
            · rw [HO.out, HS'.out, hjn', ← c_fac s n, ← HXX.out]
              simp only [Nat.mul_assoc, Nat.mul_left_comm]
            · rw [HO.out, HS'.out, hjn']; exact HM2.out
            · rw [HS'.out, hjn']; exact HSN.out
          case measure => simp [intOf]; omega
    · have hd : l.drop k = [] := List.drop_of_length_le (by omega)
      have HM2 := Lib.hid (show mult l = out by have := HM.out; rw [hd] at this; exact this)
      clear hd
      have hkl : k = l.length := by omega
      subst hkl
      clear hlt hk
      go_wp2
      go_ret
      exact ⟨by rw [HM2.out]; rfl, rfl⟩

/-- What Count answers. -/
def CountPost (xs : List Int) (e : Ending) : Prop :=
  (ok xs ∧ e = .returned (.tuple #[.int .i64 (mult (xs.map Int.toNat)), .nilIface])) ∨ (¬ ok xs ∧ ∃ c, e = .returned (.tuple #[.int .i64 0, .iface 24 (.int .i64 c)]) ∧ c = fault xs)

theorem map_toNat (xs : List Int) (h : ∀ x ∈ xs, 0 ≤ x ∧ x ≤ 8) : (xs.map Int.toNat).map (fun n : Nat => (n : Int)) = xs ∧ ((xs.map Int.toNat).sum : Int) = xs.sum := by
  induction xs with
  | nil => exact ⟨rfl, rfl⟩
  | cons x xs ih =>
    have h1 := h x (by simp)
    obtain ⟨i1, i2⟩ := ih (fun y hy => h y (by simp [hy]))
    refine ⟨?_, ?_⟩
    · rw [List.map_cons, List.map_cons, i1, Int.toNat_of_nonneg h1.1]
    · rw [List.map_cons, List.sum_cons, List.sum_cons, Int.natCast_add, i2, Int.toNat_of_nonneg h1.1]

theorem Count_any (xs : List Int) (ao : Option Addr) (cap : Nat) (w : World) (hx : IntsAt .i64 w ao xs) (hl : xs.length ≤ maxLen) :
    Calls Tryd.prog 8 #[.slice ao xs.length cap] w fun e w' => CountPost xs e ∧ w = w' := by
  have HX := Lib.hid hx; clear hx
  go_enter Tryd.func8, Tryd.ntmps8
  go_wp2_with fail
  refine (check_any xs ao cap w HX.out hl).mono ?_
  rintro e w1 ⟨hp, rfl⟩
  rcases hp with ⟨hok, rfl⟩ | ⟨hok, c, rfl, hc⟩
  · have HOK := Lib.hid hok; clear hok
    go_wp2_with fail
    have hm := map_toNat xs HOK.out.2.1
    have := count_any (xs.map Int.toNat) ao cap w (by rw [hm.1]; exact HX.out) (by have := HOK.out.2.2; omega) (by simpa using HOK.out.1)
    rw [List.length_map] at this
    refine this.mono ?_
    clear this hm
    rintro e w1 ⟨rfl, rfl⟩
    go_wp2_with fail
    go_ret2
    exact ⟨.inl ⟨HOK.out, rfl⟩, rfl⟩
  · have HOK := Lib.hid hok; clear hok
    have HC := Lib.hid hc; clear hc
    go_wp2_with fail
    go_ret2
    exact ⟨.inr ⟨HOK.out, c, rfl, HC.out⟩, rfl⟩
end Go.Proofs.YtkdfikjfbbnekaaDoor
