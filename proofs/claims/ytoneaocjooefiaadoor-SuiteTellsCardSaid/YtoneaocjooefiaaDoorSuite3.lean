/- math/bits.TrailingZeros at what suite asks of it; suite.passed of all tests. CONDITION: math/bits.deBruijn64tab holds what start-up lays there. -/
import Derived.Test.YtoneaocjooefiaaDoorSuite2
import Derived.Lib.TrailingZeros
import Derived.Laws.Bits64b
namespace Go.Proofs.YtoneaocjooefiaaDoor
open Go.RowKit Go.Mine Go.Mine.Suite

/-- The table of 64 bytes as start-up lays it. -/
def Tab (w : World) : Prop := ∀ j, j < 64 → w.cell? ⟨2, j, none⟩ = some (.int .u8 (Lib.deBruijn64tab.getD j 0))
theorem Tab.below {w w' : World} (h : Tab w) {B : Nat} (hB : 2 < B) (hb : Below B w w') : Tab w' := fun j hj => (hb.cell (p := ⟨2, j, none⟩) hB).trans (h j hj)
theorem Tab.size {w : World} (h : Tab w) : 2 < w.heap.size := World.block_lt_of_cell? w _ (h 0 (by omega))
theorem Tab.on {w w' : World} (h : Tab w) (hb : Below w.heap.size w w') : Tab w' := h.below h.size hb
theorem Tab.drewN {w : World} (h : Tab w) (q : Nat) : Tab (w.drewN q) := h
theorem Tab.drew {w : World} (h : Tab w) : Tab w.drew := h

theorem tz_key (x a : Nat) (hx : x < 18446744073709551616) (hx0 : x ≠ 0) (hlow : x &&& (18446744073709551616 - x) = a) :
    IntKind.u64.wrap (bits BinOp.and IntKind.u64 (x : Int) (IntKind.u64.wrap (-(x : Int))) * 285870213051353865) / 288230376151711744 = ((a * 285870213051353865 % 18446744073709551616 / 288230376151711744 : Nat) : Int) := by
  have e1 : IntKind.u64.wrap (-(x : Int)) = ((18446744073709551616 - x : Nat) : Int) := by rw [IntKind.wrap_u64]; omega
  rw [e1, u64_and_nat x _ hx (by omega), hlow, IntKind.wrap_u64]
  omega
set_option maxHeartbeats 1000000 in
theorem tz64_at (x k idx : Nat) (w : World) (hx0 : ((x : Int) == 0) = false)
    (key : IntKind.u64.wrap (bits BinOp.and IntKind.u64 (x : Int) (IntKind.u64.wrap (-(x : Int))) * 285870213051353865) / 288230376151711744 = (idx : Int))
    (hi : idx < 64) (hk : k < 64) (hcell : w.cell? ⟨2, idx, none⟩ = some (.int .u8 k)) :
    Calls Tryd.prog 30 #[.int .u64 x] w fun e w' => e = .returned (.int .i64 k) ∧ w = w' := by
  go_enter Tryd.func30, Tryd.ntmps30
  go_wp2_with (simp only [key])
  go_ret
  exact ⟨rfl, rfl⟩
theorem ctz_at : ∀ n, n < 13 → ∀ j, j < n → Lib.ctz 64 (2 ^ n - 2 ^ j) = j := by decide +kernel
theorem and_at : ∀ n, n < 13 → ∀ j, j < n → (2 ^ n - 2 ^ j) &&& (2 ^ n - 2 ^ j - 1) = 2 ^ n - 2 ^ (j + 1) := by decide +kernel
theorem pow_lt : ∀ n, n < 13 → ∀ j, j < n → 2 ^ j < 2 ^ n ∧ 2 ^ n ≤ 4096 := by decide +kernel
theorem tz_at (n j : Nat) (hn : n < 13) (hj : j < n) (w : World) (hT : Tab w) :
    Calls Tryd.prog 27 #[.int .u64 ((2 ^ n - 2 ^ j : Nat) : Int)] w fun e w' => e = .returned (.int .i64 j) ∧ w = w' := by
  obtain ⟨h1, h2⟩ := pow_lt n hn j hj
  have hc := ctz_at n hn j hj
  obtain ⟨x, hx⟩ : ∃ x, x = 2 ^ n - 2 ^ j := ⟨_, rfl⟩
  rw [← hx] at hc ⊢
  have hx0 : x ≠ 0 := by omega
  have hx4 : x ≤ 4096 := by rw [hx]; exact Nat.le_trans (Nat.sub_le _ _) h2
  have hxl : x < 18446744073709551616 := by omega
  obtain ⟨hlow, hk⟩ := Lib.lowest_bit 64 x hx0 hxl
  obtain ⟨hi, htab⟩ := Lib.deBruijn64_at _ hk
  have hcell := hT _ hi
  rw [htab, hc] at hcell
  rw [hc] at hi hlow hk
  have H := Lib.hid (tz64_at x j _ w (by simp; omega) (tz_key x _ hxl hx0 hlow) hi hk hcell)
  clear hcell htab hlow hx hc h1 h2 hT
  go_enter Tryd.func27, Tryd.ntmps27
  go_wp2_with fail
  refine H.out.mono ?_
  rintro e w' ⟨rfl, rfl⟩
  go_wp2_with fail
  go_ret
  exact ⟨rfl, rfl⟩
theorem orAll_take {ts : List Nat} {j : Nat} (h : j < ts.length) : orAll (ts.take (j + 1)) = orAll (ts.take j) ||| ts.getD j 0 := by
  rw [List.take_succ_eq_append_getElem h, orAll_append]
  simp [orAll, h]
theorem take_lt {ts : List Nat} (h : ∀ t ∈ ts, t < 4294967296) (j : Nat) : orAll (ts.take j) < 4294967296 := orAll_lt fun t ht => h t (List.mem_of_mem_take ht)
set_option maxHeartbeats 1000000 in
theorem passed_all (ts : List Nat) (ao : Option Addr) (c : Nat) (W : World) (hx : IntsAt .u32 W ao (cast ts)) (h32 : ∀ t ∈ ts, t < 4294967296) (hl : ts.length ≤ 12) (hT : Tab W) :
    Calls Tryd.prog 21 #[.slice ao ts.length c, .int .u64 ((2 ^ ts.length - 1 : Nat) : Int)] W fun e w' => e = .returned (.int .u32 (orAll ts)) ∧ W = w' := by
  have HX := Lib.hid hx
  have H32 := Lib.hid h32
  have HT := Lib.hid hT
  obtain ⟨z, hz⟩ : ∃ z, z = 2 ^ ts.length - 1 := ⟨_, rfl⟩
  rw [← hz]
  have HZ := Lib.hid (show z = 2 ^ ts.length - 2 ^ 0 by rw [hz])
  clear hx h32 hT hz
  go_enter Tryd.func21, Tryd.ntmps21
  go_wp2_with fail
  go_loop [1, 5] (fun wv ov => ∃ j x y : Nat, wv = .int .u64 x ∧ ov = .int .u32 y ∧ j ≤ ts.length ∧ RowKit.Hid (x = 2 ^ ts.length - 2 ^ j ∧ y = orAll (ts.take j))) (fun wv _ => (intOf wv).toNat)
  case atStart => exact ⟨0, z, 0, rfl, rfl, by omega, Lib.hid ⟨HZ.out, by simp [orAll]⟩⟩
  case round =>
    obtain ⟨j, x, y, rfl, rfl, hj, hxy⟩ := hrel
    by_cases hlt : j < ts.length
    · obtain ⟨b, o, rfl, hc⟩ := HX.out j (by rw [cast_len]; exact hlt)
      rw [cast_get] at hc
      have hp := pow_lt ts.length (by omega) j hlt
      have hx0 : 0 < x := by have := hxy.out.1; omega
      have hxm : x ≤ 4096 := by rw [hxy.out.1]; exact Nat.le_trans (Nat.sub_le _ _) hp.2
      have hne : ((x : Int) != 0) = true := by rw [bne_iff_ne]; omega
      have HTZ := Lib.hid (tz_at ts.length j (by omega) hlt W HT.out)
      rw [← hxy.out.1] at HTZ
      have ht32 : ts.getD j 0 < 4294967296 := get_lt H32.out j
      have hy32 : y < 4294967296 := by rw [hxy.out.2]; exact take_lt H32.out j
      have hor := u32_or_nat y (ts.getD j 0) hy32 ht32
      have hsub : ((x : Int) - 1) = ((x - 1 : Nat) : Int) := by omega
      have hand := u64_and_nat x (x - 1) (by omega) (by omega)
      rw [← hsub] at hand
      have HN1 := Lib.hid (show x &&& (x - 1) = 2 ^ ts.length - 2 ^ (j + 1) by rw [hxy.out.1]; exact and_at ts.length (by omega) j hlt)
      have HN2 := Lib.hid (show y ||| ts.getD j 0 = orAll (ts.take (j + 1)) by rw [orAll_take hlt, hxy.out.2])
      have hle : x &&& (x - 1) < x := Nat.lt_of_le_of_lt Nat.and_le_right (by omega)
      obtain ⟨t, ht⟩ : ∃ t, t = ts.getD j 0 := ⟨_, rfl⟩
      rw [← ht] at hc hor HN2
      obtain ⟨x', hx'⟩ : ∃ x', x' = x &&& (x - 1) := ⟨_, rfl⟩
      rw [← hx'] at hand HN1 hle
      obtain ⟨y', hy'⟩ : ∃ y', y' = y ||| t := ⟨_, rfl⟩
      rw [← hy'] at hor HN2
      clear hp hxy ht hx' hy' hsub
      go_wp2_with (go_at_call 27; refine (HTZ.out).mono ?_; rintro e w' ⟨rfl, rfl⟩)
      go_round
      case rel => exact ⟨j + 1, x', y', rfl, rfl, by omega, Lib.hid ⟨HN1.out, HN2.out⟩⟩
      case measure => simp [intOf]; omega
    · obtain rfl : j = ts.length := by omega
      have hx0 : x = 0 := by have := hxy.out.1; omega
      subst hx0
      have hy := hxy.out.2
      rw [List.take_of_length_le (Nat.le_refl _)] at hy
      subst hy
      clear hxy
      go_wp2_with fail
      go_ret
      exact ⟨rfl, rfl⟩
end Go.Proofs.YtoneaocjooefiaaDoor
