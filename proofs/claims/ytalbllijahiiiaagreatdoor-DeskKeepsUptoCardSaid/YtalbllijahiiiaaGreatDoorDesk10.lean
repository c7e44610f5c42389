/- tape.Check, Less, Text. -/
import Derived.Test.YtalbllijahiiiaaGreatDoorDesk9
import Derived.Lib.ItoaLen
namespace Go.Proofs.YtalbllijahiiiaaGreatDoor
open Go.RowKit Go.Mine Go.Mine.Desk

theorem isNaN_any (x : Int) (w : World) : Calls Tryz.prog 161 #[.int .i64 x] w fun e w' => e = .returned (.bool false) ∧ w = w' := by
  have hb : (x != x) = false := by simp
  go_enter Tryz.func161, Tryz.ntmps161
  go_wp2_with fail
  go_ret
  exact ⟨rfl, rfl⟩
def cmpI (x y : Int) : Int := if x < y then -1 else if y < x then 1 else 0
theorem compare_any (x y : Int) (w : World) : Calls Tryz.prog 140 #[.int .i64 x, .int .i64 y] w fun e w' => e = .returned (.int .i64 (cmpI x y)) ∧ w = w' := by
  by_cases h1 : x < y
  · have HE := Lib.hid (show cmpI x y = -1 by unfold cmpI; rw [if_pos h1])
    go_enter Tryz.func140, Tryz.ntmps140
    go_wp2_with fail
    refine (isNaN_any x w).mono ?_
    rintro e w1 ⟨rfl, rfl⟩
    go_wp2_with fail
    refine (isNaN_any y w).mono ?_
    rintro e w1 ⟨rfl, rfl⟩
    go_wp2_with fail
    go_ret
    exact ⟨by rw [HE.out]; rfl, rfl⟩
  · by_cases h2 : y < x
    · have HE := Lib.hid (show cmpI x y = 1 by unfold cmpI; rw [if_neg h1, if_pos h2])
      go_enter Tryz.func140, Tryz.ntmps140
      go_wp2_with fail
      refine (isNaN_any x w).mono ?_
      rintro e w1 ⟨rfl, rfl⟩
      go_wp2_with fail
      refine (isNaN_any y w).mono ?_
      rintro e w1 ⟨rfl, rfl⟩
      go_wp2_with fail
      go_ret
      exact ⟨by rw [HE.out]; rfl, rfl⟩
    · have HE := Lib.hid (show cmpI x y = 0 by unfold cmpI; rw [if_neg h1, if_neg h2])
      go_enter Tryz.func140, Tryz.ntmps140
      go_wp2_with fail
      refine (isNaN_any x w).mono ?_
      rintro e w1 ⟨rfl, rfl⟩
      go_wp2_with fail
      refine (isNaN_any y w).mono ?_
      rintro e w1 ⟨rfl, rfl⟩
      go_wp2_with fail
      go_ret
      exact ⟨by rw [HE.out]; rfl, rfl⟩
def cmpL : List Int → List Int → Int
  | x :: xs, y :: ys => if cmpI x y = 0 then cmpL xs ys else cmpI x y
  | _, _ => 0
theorem cmpL_step {xs ys : List Int} {k : Nat} (hk : k < xs.length) (hk' : k < ys.length) : cmpL (xs.drop k) (ys.drop k) = if cmpI (xs.getD k 0) (ys.getD k 0) = 0 then cmpL (xs.drop (k + 1)) (ys.drop (k + 1)) else cmpI (xs.getD k 0) (ys.getD k 0) := by
  rw [List.drop_eq_getElem_cons hk, List.drop_eq_getElem_cons hk']
  simp [cmpL, hk, hk']
theorem cmpL_neg : ∀ {a b : List Int}, cmpL a b < 0 ↔ lexLt a b = true
  | [], b => by simp [cmpL, lexLt]
  | _ :: _, [] => by simp [cmpL, lexLt]
  | x :: xs, y :: ys => by
    unfold cmpL lexLt
    by_cases e : x = y
    · subst e
      rw [if_pos (by simp [cmpI]), if_pos rfl]
      exact cmpL_neg
    · rw [if_neg e]
      by_cases h : x < y
      · rw [show cmpI x y = -1 by unfold cmpI; rw [if_pos h], if_neg (by decide)]
        simp [h]
      · rw [show cmpI x y = 1 by unfold cmpI; rw [if_neg h, if_pos (by omega)], if_neg (by decide)]
        simp [h]
set_option maxHeartbeats 600000 in
theorem compares_any (xs ys : List Int) (a b : Option Addr) (ca cb : Nat) (w : World) (hx : IntsAt .i64 w a xs) (hy : IntsAt .i64 w b ys) (hl : xs.length ≤ maxLen) (hne : xs.length = ys.length) :
    Calls Tryz.prog 117 #[.slice a xs.length ca, .slice b ys.length cb] w fun e w' => e = .returned (.int .i64 (cmpL xs ys)) ∧ w = w' := by
  unfold maxLen at hl
  have HX := Lib.hid hx; clear hx
  have HY := Lib.hid hy; clear hy
  rw [← hne]
  have HNE := Lib.hid hne; clear hne
  go_enter Tryz.func117, Tryz.ntmps117
  go_wp2_with fail
  go_loopw [11] (fun i wr => ∃ k : Nat, i = .int .i64 k ∧ k ≤ xs.length ∧ RowKit.Hid (cmpL xs ys = cmpL (xs.drop k) (ys.drop k)) ∧ w = wr) (fun i _ => xs.length - (intOf i).toNat)
  case atStart => exact ⟨0, rfl, by omega, Lib.hid (by simp), rfl⟩
  case round =>
    obtain ⟨k, rfl, hk, HT, hwr⟩ := hrel
    subst hwr
    by_cases hlt : k < xs.length
    · obtain ⟨b1, o1, rfl, hc1⟩ := HX.out k hlt
      obtain ⟨b2, o2, rfl, hc2⟩ := HY.out k (by rw [← HNE.out]; exact hlt)
      have HTS := Lib.hid (HT.out.trans (cmpL_step hlt (by rw [← HNE.out]; exact hlt)))
      obtain ⟨x, hx⟩ : ∃ x, x = xs.getD k 0 := ⟨_, rfl⟩
      obtain ⟨y, hy⟩ : ∃ y, y = ys.getD k 0 := ⟨_, rfl⟩
      rw [← hx, ← hy] at HTS
      rw [← hx] at hc1
      rw [← hy] at hc2
      clear hx hy
      go_wp2_with fail
      refine (compare_any x y w).mono ?_
      rintro e w1 ⟨rfl, rfl⟩
      obtain ⟨c, hc⟩ : ∃ c, c = cmpI x y := ⟨_, rfl⟩
      rw [← hc] at HTS ⊢
      clear hc
      by_cases h0 : c = 0
      · have hb : (c != 0) = false := by simp [h0]
        have HTN := Lib.hid (show cmpL xs ys = cmpL (xs.drop (k + 1)) (ys.drop (k + 1)) by rw [HTS.out, if_pos h0])
        clear h0
        go_wp2_with fail
        go_roundw
        case rel => exact ⟨k + 1, by go_num, by omega, HTN, trivial⟩
        case measure => simp [intOf]; omega
      · have hb : (c != 0) = true := by rw [bne_iff_ne]; exact h0
        have HTN := Lib.hid (show cmpL xs ys = c by rw [HTS.out, if_neg h0])
        clear h0
        go_wp2_with fail
        go_ret
        exact ⟨by rw [HTN.out]; rfl, rfl⟩
    · obtain rfl : k = xs.length := by omega
      have HE := Lib.hid (show cmpL xs ys = 0 by rw [HT.out, List.drop_length]; rfl)
      go_wp2_with fail
      go_ret
      exact ⟨by rw [HE.out]; rfl, rfl⟩
theorem tapeLess_any (xs ys : List Int) (a b : Option Addr) (ca cb : Nat) (w : World) (hx : IntsAt .i64 w a xs) (hy : IntsAt .i64 w b ys) (hl : xs.length ≤ maxLen) (_hl2 : ys.length ≤ maxLen) :
    Calls Tryz.prog 90 #[.slice a xs.length ca, .slice b ys.length cb] w fun e w' => e = .returned (.bool (tapeLt xs ys)) ∧ w = w' := by
  by_cases hne : xs.length = ys.length
  · have HC := Lib.hid (compares_any xs ys a b ca cb w hx hy hl hne)
    unfold maxLen at hl
    have HR := Lib.hid (show tapeLt xs ys = decide (cmpL xs ys < 0) by
      unfold tapeLt
      rw [if_pos hne, Bool.eq_iff_iff, decide_eq_true_iff]
      exact cmpL_neg.symm)
    have hb : ((xs.length : Int) != (ys.length : Int)) = false := by simp [hne]
    clear hx hy hne
    go_enter Tryz.func90, Tryz.ntmps90
    go_wp2_with fail
    refine HC.out.mono ?_
    rintro e w1 ⟨rfl, rfl⟩
    go_wp2_with fail
    go_ret
    exact ⟨by rw [HR.out]; rfl, rfl⟩
  · have HE := Lib.hid (show tapeLt xs ys = decide (xs.length < ys.length) by unfold tapeLt; rw [if_neg hne])
    unfold maxLen at hl
    have hb : ((xs.length : Int) != (ys.length : Int)) = true := by rw [bne_iff_ne]; omega
    have hb2 : ((xs.length : Int) == (ys.length : Int)) = false := by rw [beq_eq_false_iff_ne]; omega
    clear hx hy hne
    go_enter Tryz.func90, Tryz.ntmps90
    go_wp2_with fail
    go_ret
    exact ⟨by rw [HE.out]; simp, rfl⟩

/-! tape.Check -/
def TapeFault (ts : List Int) (w : World) (e : Ending) (w' : World) : Prop := e = .returned (if tapeOk ts then .nilIface else .iface 36 (.int .i64 1)) ∧ w' = w
theorem tape_check_any (ts : List Int) (ao : Option Addr) (n c : Nat) (hn : ts.length = n) (hl : n ≤ maxLen) (w : World) (hat : IntsAt .i64 w ao ts) :
    Calls Tryz.prog 115 #[.slice ao n c] w (TapeFault ts w) := by
  have hl' : n ≤ 9223372036854775807 := by unfold maxLen at hl; omega
  obtain ⟨w2, hw2⟩ : ∃ w2, w2 = w := ⟨_, rfl⟩
  have HEND : ∀ wr b, RowKit.Hid (wr = w2) → tapeOk ts = b → TapeFault ts w (.returned (if b then .nilIface else .iface 36 (.int .i64 1))) wr := fun wr b h hb => ⟨by rw [hb], h.out.trans hw2⟩
  have HE1 := Lib.hid HEND
  clear HEND
  go_enter Tryz.func115, Tryz.ntmps115
  go_wp2_with fail
  go_loopw [4, 7] (fun _ kv wr => ∃ k : Nat, kv = .int .i64 (k : Int) ∧ k ≤ n ∧ RowKit.Hid (tapeOk (ts.take k) = true) ∧ RowKit.Hid (wr = w2)) (fun _ kv _ => n - (intOf kv).toNat)
  case atStart => exact ⟨0, rfl, by omega, Lib.hid rfl, Lib.hid hw2.symm⟩
  case round =>
    obtain ⟨k, rfl, hk, HK, hwr⟩ := hrel
    rcases Nat.lt_or_ge k n with hkn | hkn
    · obtain ⟨b, o, rfl, hx⟩ := hat k (by omega)
      rw [← hw2, ← hwr.out] at hx
      have hmem : ts[k]? = some (ts.getD k 0) := by simp [show k < ts.length by omega]
      have hgd : k < ts.length := by omega
      obtain ⟨x, hxe⟩ : ∃ x, ts.getD k 0 = x := ⟨_, rfl⟩
      rw [hxe] at hx hmem
      have hi0 : (0 : Int) ≤ (k : Int) := by omega
      have hi1 : (k : Int) < (n : Int) := by omega
      have HM := Lib.hid hmem
      clear hmem hxe
      by_cases hbad : x < 0 ∨ 1000 < x
      · have HE := Lib.hid (show tapeOk ts = false by
          rw [Bool.eq_false_iff]
          intro h
          rw [tapeOk, List.all_eq_true] at h
          have := h x (List.mem_of_getElem? HM.out)
          simp at this
          omega)
        have HEND := Lib.hid (HE1.out wr false hwr HE.out)
        rcases Int.lt_or_le x 0 with h0 | h0
        · go_wp2_with fail
          go_ret
          exact HEND.out
        · have h1 : 1000 < x := by omega
          have h2 : ¬ x < 0 := by omega
          go_wp2_with fail
          go_ret
          exact HEND.out
      · have h1 : ¬ x < 0 := by omega
        have h2 : ¬ 1000 < x := by omega
        have hw1 : IntKind.i64.wrap ((k : Int) + 1) = ((k + 1 : Nat) : Int) := by rw [IntWalk.i64_in _ (by omega)]; omega
        go_wp2_with fail
        go_roundw
        case rel => exact ⟨k + 1, by go_num, by omega, Lib.hid (by
          rw [List.take_add_one, HM.out, tapeOk, List.all_append, show (ts.take k).all _ = true from HK.out]
          simp; omega), hwr⟩
        case measure => simp [intOf]; omega
    · obtain rfl : k = n := by omega
      have HE := Lib.hid (show tapeOk ts = true by have := HK.out; rwa [List.take_of_length_le (by omega)] at this)
      have HEND := Lib.hid (HE1.out wr true hwr HE.out)
      go_wp2_with fail
      go_ret
      exact HEND.out
end Go.Proofs.YtalbllijahiiiaaGreatDoor
