/- cond.Matters, and what covers asks of a test. No conditions. -/
import Derived.Test.YtpmfpegjkfnnkaaCond1
import Derived.Test.YtpmfpegjkfnnkaaIdxFunc
import Derived.Test.YtpmfpegjkfnnkaaContains
import Derived.Test.YtpmfpegjkfnnkaaContainsB
namespace Go.Proofs.Ytpmfpegjkfnnkaa
open Go.RowKit Go.Mine Go.Mine.Cond

theorem eq_err (w : World) : Sem.run Try.prog (binOp BinOp.eql 25 (.iface 42 (.int .i64 1)) (.iface 42 (.int .i64 2))) w = .ok (.bool false) w := by kernel_rfl
theorem eq_err3 (w : World) : Sem.run Try.prog (binOp BinOp.eql 25 (.iface 42 (.int .i64 3)) (.iface 42 (.int .i64 2))) w = .ok (.bool false) w := by kernel_rfl
theorem eq_err2 (w : World) : Sem.run Try.prog (binOp BinOp.eql 25 (.iface 42 (.int .i64 2)) (.iface 42 (.int .i64 2))) w = .ok (.bool true) w := by kernel_rfl
theorem eq_err0 (w : World) : Sem.run Try.prog (binOp BinOp.eql 25 .nilIface (.iface 42 (.int .i64 2))) w = .ok (.bool false) w := by kernel_rfl

/-- What Matters tells. -/
def MattersPost (n : Int) (fs : List Bool) (i : Int) (e : Ending) : Prop :=
  (¬ cok n fs.length ∧ e = .returned (.tuple #[.bool false, .iface 42 (.int .i64 (cfault n fs.length))])) ∨
  (cok n fs.length ∧ ¬ (0 ≤ i ∧ i < n) ∧ e = .returned (.tuple #[.bool false, .iface 42 (.int .i64 1)])) ∨
  (cok n fs.length ∧ (0 ≤ i ∧ i < n) ∧ ¬ Mat fs i.toNat ∧ e = .returned (.tuple #[.bool false, .nilIface])) ∨
  (cok n fs.length ∧ (0 ≤ i ∧ i < n) ∧ Mat fs i.toNat ∧ e = .returned (.tuple #[.bool true, .nilIface]))

set_option maxHeartbeats 1000000 in
theorem matters_any (n i : Int) (fs : List Bool) (fo : Option Addr) (fc : Nat) (W : World) (hf : BoolsAt W fo fs) :
    Calls Try.prog 23 #[.int .i64 n, .slice fo fs.length fc, .int .i64 i] W fun e w' => MattersPost n fs i e ∧ ∃ q, w' = W.drewN q := by
  have HP := pair_any n i fs fo fc W hf
  have q1 := eq_err
  have q2 := eq_err2
  have q3 := eq_err3
  have q0 := eq_err0
  clear hf
  go_enter Try.func23, Try.ntmps23
  go_wp2_with fail
  refine HP.mono ?_
  clear HP
  rintro e w' ⟨hp, q, rfl⟩
  rcases hp with ⟨h, rfl⟩ | ⟨h1, h2, rfl⟩ | ⟨h1, h2, h3, rfl⟩ | ⟨h1, h2, t, h3, rfl⟩
  · have H := Lib.hid h
    have hpost : ∀ e, e = Ending.returned (.tuple #[.bool false, .iface 42 (.int .i64 (cfault n fs.length))]) → MattersPost n fs i e := fun e he => .inl ⟨H.out, he⟩
    have HPOST := Lib.hid hpost
    clear hpost
    rcases cfault_bad h with hc | hc
    all_goals
      rw [hc] at HPOST ⊢
      clear hc h
      go_wp2_with fail
      go_ret2
      exact ⟨HPOST.out _ rfl, q, rfl⟩
  · have H := Lib.hid (And.intro h1 h2)
    clear h1 h2
    go_wp2_with fail
    go_ret2
    exact ⟨.inr (.inl ⟨H.out.1, H.out.2, rfl⟩), q, rfl⟩
  · have H := Lib.hid (And.intro h1 (And.intro h2 h3))
    clear h1 h2 h3
    go_wp2_with fail
    go_ret2
    exact ⟨.inr (.inr (.inl ⟨H.out.1, H.out.2.1, H.out.2.2, rfl⟩)), q, rfl⟩
  · have H := Lib.hid (And.intro h1 (And.intro h2 h3.mat))
    clear h1 h2 h3
    go_wp2_with fail
    go_ret2
    exact ⟨.inr (.inr (.inr ⟨H.out.1, H.out.2.1, H.out.2.2, rfl⟩)), q, rfl⟩

set_option maxHeartbeats 1000000 in
theorem duo_any (fs : List Bool) (xs : List Int) (n i : Nat) (x : Int) (pf pb pt : Addr) (fo to : Option Addr) (fc tc : Nat) (w : World) (h1 : w.cell? pf = some (.slice fo fs.length fc)) (h2 : w.cell? pb = some (.int .i64 ((2 ^ i : Nat) : Int))) (h3 : w.cell? pt = some (.slice to xs.length tc))
    (hf : BoolsAt w fo fs) (hx : IntsAt .i64 w to xs) (hl : fs.length = 2 ^ n) (hn : n ≤ 6) (hi : i < n) (hr : 0 ≤ x ∧ x < fs.length) (hxl : xs.length ≤ maxLen) :
    Calls Try.prog 25 #[.int .i64 x, .pointer (some pf), .pointer (some pb), .pointer (some pt)] w fun e w' => e = .returned (.bool (duo fs xs i x)) ∧ ∃ m, w' = w.drewN m := by
  obtain ⟨t, rfl⟩ := Int.eq_ofNat_of_zero_le hr.1
  have htl : t < fs.length := by omega
  have hx1 := xor_bit i (by omega) t (by have := pow_le hn; omega)
  have hx2 := xor_lt n (by omega) i hi t (by omega)
  rw [← hl] at hx2
  have hd : duo fs xs i t = ((at' fs t != at' fs (t ^^^ 2 ^ i)) && decide (((t ^^^ 2 ^ i : Nat) : Int) ∈ xs)) := by unfold duo; rw [Int.toNat_natCast]
  rw [hd]
  obtain ⟨b, o, rfl, hcell⟩ := hf.plain (by omega)
  have hc1 := hcell t htl
  have hc2 := hcell _ hx2
  have e1 : fs.getD t false = at' fs t := rfl
  have e2 : fs.getD (t ^^^ 2 ^ i) false = at' fs (t ^^^ 2 ^ i) := rfl
  rw [e1] at hc1
  rw [e2] at hc2
  obtain ⟨B, hB⟩ : ∃ B, B = 2 ^ i := ⟨_, rfl⟩
  rw [← hB] at h2 hx1 hx2 hc2 ⊢
  obtain ⟨u, hu⟩ : ∃ u, u = t ^^^ B := ⟨_, rfl⟩
  rw [← hu] at hx1 hx2 hc2 ⊢
  have HC := Lib.hid (fun q => contains_any xs (u : Int) to tc (w.drewN q) (hx.drewN q) hxl)
  obtain ⟨y, hy⟩ : ∃ y, y = at' fs t := ⟨_, rfl⟩
  obtain ⟨z, hz⟩ : ∃ z, z = at' fs u := ⟨_, rfl⟩
  rw [← hy] at hc1 ⊢
  rw [← hz] at hc2 ⊢
  have hul : u ≤ 63 := by have := pow_le hn; omega
  have ht63 : t ≤ 63 := by have := pow_le hn; omega
  clear hd e1 e2 hB hu hy hz hcell hf hr hi hl hn hx
  by_cases hyz : y = z
  · subst hyz
    have hne : (y != y) = false := by simp
    go_enter Try.func25, Try.ntmps25
    go_wp2_with fail
    go_quiet (fail)
    go_wp2_with fail
    go_ret
    exact ⟨by simp, _, rfl⟩
  · obtain rfl : z = !y := by cases y <;> cases z <;> simp_all
    clear hyz
    cases y
    all_goals
      go_enter Try.func25, Try.ntmps25
      go_wp2_with fail
      go_quiet (first | (go_at_call 26; refine Calls.quiet_of_same ((HC.out _).mono fun e w' h => ⟨h.1, h.2.symm⟩)))
      go_wp2_with fail
      go_ret
      exact ⟨by simp, _, rfl⟩

theorem want_any (fs : List Bool) (v : Bool) (x : Int) (pf pw : Addr) (fo : Option Addr) (fc : Nat) (w : World) (h1 : w.cell? pf = some (.slice fo fs.length fc)) (h2 : w.cell? pw = some (.bool v)) (hf : BoolsAt w fo fs) (hfl : fs.length ≤ 64) (hr : 0 ≤ x ∧ x < fs.length) :
    Calls Try.prog 28 #[.int .i64 x, .pointer (some pf), .pointer (some pw)] w fun e w' => e = .returned (.bool (at' fs x.toNat == v)) ∧ ∃ m, w' = w.drewN m := by
  obtain ⟨t, rfl⟩ := Int.eq_ofNat_of_zero_le hr.1
  have htl : t < fs.length := by omega
  rw [Int.toNat_natCast]
  obtain ⟨b, o, rfl, hc1⟩ := hf t htl
  have e1 : fs.getD t false = at' fs t := rfl
  rw [e1] at hc1
  obtain ⟨y, hy⟩ : ∃ y, y = at' fs t := ⟨_, rfl⟩
  rw [← hy] at hc1 ⊢
  clear e1 hy hf hr
  go_enter Try.func28, Try.ntmps28
  go_wp2_with fail
  go_quiet (fail)
  go_wp2_with fail
  go_ret
  exact ⟨rfl, _, rfl⟩
end Go.Proofs.Ytpmfpegjkfnnkaa
