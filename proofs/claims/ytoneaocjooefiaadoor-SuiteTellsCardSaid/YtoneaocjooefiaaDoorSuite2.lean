/- math/bits.OnesCount32. No conditions. -/
import Derived.Test.YtoneaocjooefiaaDoorSuite1
import Derived.Lib.Tables
namespace Go.Proofs.YtoneaocjooefiaaDoor
open Go.RowKit Go.Mine Go.Mine.Suite

theorem fold_pop (l : List UInt8) (h : l = Lib.pop8tab.data.toList) : ByteArray.mk l.toArray = Lib.pop8tab := by subst h; rfl
def ones8 (n : Nat) : Nat := (List.range 8).countP fun k => n.testBit k
theorem pop8_ones : ∀ n : Fin 256, Lib.pop8 ((n.val : Nat) : Int) = ((ones8 n.val : Nat) : Int) := by decide +kernel
theorem pop8_eq {n : Nat} (h : n < 256) : Lib.pop8 (n : Int) = ((ones8 n : Nat) : Int) := pop8_ones ⟨n, h⟩
theorem ones8_le (n : Nat) : ones8 n ≤ 8 := by
  have := List.countP_le_length (p := fun k => n.testBit k) (l := List.range 8)
  simpa [ones8] using this
theorem ones8_part (x j : Nat) : ones8 (x / 2 ^ j % 256) = (List.range' j 8).countP fun k => x.testBit k := by
  unfold ones8
  rw [List.range'_eq_map_range, List.countP_map]
  refine List.countP_congr fun k hk => ?_
  have hk8 := List.mem_range.1 hk
  simp only [Function.comp, show (256 : Nat) = 2 ^ 8 from rfl, Nat.testBit_mod_two_pow, Nat.testBit_div_two_pow, decide_eq_true hk8, Bool.true_and]
  rw [Nat.add_comm]
theorem ones_parts (x : Nat) (hx : x < 4294967296) : ones8 (x / 16777216) + ones8 (x / 65536 % 256) + ones8 (x / 256 % 256) + ones8 (x % 256) = ones x := by
  have h0 := ones8_part x 0
  have h1 := ones8_part x 8
  have h2 := ones8_part x 16
  have h3 := ones8_part x 24
  rw [show (2 : Nat) ^ 0 = 1 from rfl, Nat.div_one] at h0
  rw [show (2 : Nat) ^ 8 = 256 from rfl] at h1
  rw [show (2 : Nat) ^ 16 = 65536 from rfl] at h2
  rw [show (2 : Nat) ^ 24 = 16777216 from rfl, Nat.mod_eq_of_lt (by omega)] at h3
  rw [h0, h1, h2, h3]
  unfold ones
  have e : List.range 32 = List.range' 0 8 ++ (List.range' 8 8 ++ (List.range' 16 8 ++ List.range' 24 8)) := by decide
  rw [e, List.countP_append, List.countP_append, List.countP_append]
  omega

set_option maxHeartbeats 1000000 in
theorem count_any (x : Nat) (hx : x < 4294967296) (W : World) :
    Calls Tryd.prog 22 #[.int .u32 x] W fun e w' => e = .returned (.int .i64 (ones x)) ∧ ∃ q, w' = W.drewN q := by
  have HP := Lib.hid (ones_parts x hx)
  have g1 : (x : Int) / 16777216 ≤ 255 := by omega
  have g0 : 0 ≤ (x : Int) / 16777216 := by omega
  have m2 : bits BinOp.and IntKind.u32 ((x : Int) / 65536) 255 = (x : Int) / 65536 % 256 := by
    have := u32_and_nat (x / 65536) 255 (by omega) (by omega)
    rw [show (255 : Nat) = 2 ^ 8 - 1 from rfl, Nat.and_two_pow_sub_one_eq_mod] at this
    simpa using this
  have m1 : bits BinOp.and IntKind.u32 ((x : Int) / 256) 255 = (x : Int) / 256 % 256 := by
    have := u32_and_nat (x / 256) 255 (by omega) (by omega)
    rw [show (255 : Nat) = 2 ^ 8 - 1 from rfl, Nat.and_two_pow_sub_one_eq_mod] at this
    simpa using this
  have m0 : bits BinOp.and IntKind.u32 (x : Int) 255 = (x : Int) % 256 := by
    have := u32_and_nat x 255 (by omega) (by omega)
    rw [show (255 : Nat) = 2 ^ 8 - 1 from rfl, Nat.and_two_pow_sub_one_eq_mod] at this
    simpa using this
  have p3 : Lib.pop8 ((x : Int) / 16777216) = ((ones8 (x / 16777216) : Nat) : Int) := by have := pop8_eq (n := x / 16777216) (by omega); simpa using this
  have p2 : Lib.pop8 ((x : Int) / 65536 % 256) = ((ones8 (x / 65536 % 256) : Nat) : Int) := by have := pop8_eq (n := x / 65536 % 256) (by omega); simpa using this
  have p1 : Lib.pop8 ((x : Int) / 256 % 256) = ((ones8 (x / 256 % 256) : Nat) : Int) := by have := pop8_eq (n := x / 256 % 256) (by omega); simpa using this
  have p0 : Lib.pop8 ((x : Int) % 256) = ((ones8 (x % 256) : Nat) : Int) := by have := pop8_eq (n := x % 256) (by omega); simpa using this
  have q3 := ones8_le (x / 16777216)
  have q2 := ones8_le (x / 65536 % 256)
  have q1 := ones8_le (x / 256 % 256)
  have q0 := ones8_le (x % 256)
  obtain ⟨a3, ha3⟩ : ∃ a, a = ones8 (x / 16777216) := ⟨_, rfl⟩
  obtain ⟨a2, ha2⟩ : ∃ a, a = ones8 (x / 65536 % 256) := ⟨_, rfl⟩
  obtain ⟨a1, ha1⟩ : ∃ a, a = ones8 (x / 256 % 256) := ⟨_, rfl⟩
  obtain ⟨a0, ha0⟩ : ∃ a, a = ones8 (x % 256) := ⟨_, rfl⟩
  rw [← ha3] at p3 q3 HP
  rw [← ha2] at p2 q2 HP
  rw [← ha1] at p1 q1 HP
  rw [← ha0] at p0 q0 HP
  clear ha0 ha1 ha2 ha3
  go_enter Tryd.func22, Tryd.ntmps22
  rw [fold_pop]
  case h => decide +kernel
  go_wp2_with fail
  go_quiet (fail)
  go_wp2_with fail
  go_ret
  exact ⟨by rw [← HP.out]; simp, _, rfl⟩
end Go.Proofs.YtoneaocjooefiaaDoor
