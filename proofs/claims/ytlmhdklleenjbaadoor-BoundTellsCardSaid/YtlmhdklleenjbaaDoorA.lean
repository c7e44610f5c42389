import Derived.Test.YtlmhdklleenjbaaDoorRows
import Derived.Test.YtlmhdklleenjbaaDoorLib
import Derived.Deep.QuietTactic
import Derived.BigQuiet
namespace Go.Proofs.YtlmhdklleenjbaaDoor
open Go.RowKit Go.Mine

theorem check_ok (a b : Int) (w : World) (h1 : a ≤ b) (h2 : -1073741824 ≤ a) (h3 : b ≤ 1073741824) :
    Calls Tryd.prog 9 #[.int .i64 a, .int .i64 b] w fun e w' => e = .returned .nilIface ∧ w = w' := by
  go_enter Tryd.func9, Tryd.ntmps9
  go_wp2
  go_ret
  exact ⟨rfl, rfl⟩
theorem check_bad (a b : Int) (w : World) (h : b < a ∨ a < -1073741824 ∨ 1073741824 < b) :
    Calls Tryd.prog 9 #[.int .i64 a, .int .i64 b] w fun e w' => e = .returned (.iface 22 (.int .i64 1)) ∧ w = w' := by
  by_cases h1 : b < a
  · go_enter Tryd.func9, Tryd.ntmps9
    go_wp2
    go_ret
    exact ⟨rfl, rfl⟩
  · by_cases h2 : a < -1073741824
    · go_enter Tryd.func9, Tryd.ntmps9
      go_wp2
      go_ret
      exact ⟨rfl, rfl⟩
    · have h3 : 1073741824 < b := by omega
      go_enter Tryd.func9, Tryd.ntmps9
      go_wp2
      go_ret
      exact ⟨rfl, rfl⟩

/-- Where the pieces begin: n of them, the first r of q + 1 numbers, the others of q. -/
def St (low q r : Int) : Nat → Int
  | 0 => low
  | i + 1 => St low q r i + (if (i : Int) < r then q + 1 else q)
theorem St.lin (low q r : Int) (hr : 0 ≤ r) : ∀ i : Nat, St low q r i = low + i * q + min (i : Int) r
  | 0 => by simp [St]; omega
  | i + 1 => by
    rw [St, St.lin low q r hr i]
    have : ((i + 1 : Nat) : Int) * q = i * q + q := by rw [Int.natCast_add, Int.add_mul]; simp
    rw [this]
    split <;> omega
theorem St.mono (low q r : Int) (hq : 0 ≤ q) {i : Nat} : ∀ {k : Nat}, i ≤ k → St low q r i ≤ St low q r k
  | 0, h => by
    have e : i = 0 := by omega
    rw [e]; exact Int.le_refl _
  | k + 1, h => by
    by_cases h' : i = k + 1
    · subst h'; exact Int.le_refl _
    · have := St.mono low q r hq (show i ≤ k by omega)
      rw [St]
      split <;> omega

/-- The cells of the first k pieces. -/
def pcells (s : Nat → Int) : Nat → List Value
  | 0 => []
  | k + 1 => pcells s k ++ [.int .i64 (s k), .int .i64 (s (k + 1) - 1)]
theorem pcells_len (s : Nat → Int) : ∀ k, (pcells s k).length = k * 2
  | 0 => rfl
  | k + 1 => by rw [pcells, List.length_append, pcells_len s k]; simp; omega
theorem pcells_at (s : Nat → Int) : ∀ (k i : Nat), i < k → (pcells s k)[i * 2]? = some (.int .i64 (s i)) ∧ (pcells s k)[i * 2 + 1]? = some (.int .i64 (s (i + 1) - 1))
  | k + 1, i, h => by
    have hl := pcells_len s k
    rw [pcells]
    by_cases h' : i < k
    · have := pcells_at s k i h'
      rw [List.getElem?_append_left (by omega), List.getElem?_append_left (by omega)]
      exact this
    · obtain rfl : i = k := by omega
      rw [List.getElem?_append_right (by omega), List.getElem?_append_right (by omega), hl]
      simp

theorem info27 : (Tryd.prog.info? 41).map (fun i => (i.zero, i.size, i.bytes)) = some (some (.agg #[.int .i64 0, .int .i64 0]), 2, 16) := by kernel_rfl

set_option maxHeartbeats 600000 in
set_option maxRecDepth 100000 in
theorem parts_ok (low high : Int) (n : Nat) (W : World) (h1 : low ≤ high) (h2 : -1073741824 ≤ low) (h3 : high ≤ 1073741824) (hn : 1 ≤ n) (hn2 : (n : Int) ≤ high - low + 1) (hn3 : n ≤ 1000) :
    Calls Tryd.prog 8 #[.int .i64 low, .int .i64 high, .int .i64 n] W fun e w' => ∃ g cap, e = .returned (.tuple #[.slice (some ⟨g, 0, none⟩) n cap, .nilIface]) ∧
      w'.ownsRow W.heap.size 41 2 (.slice (some ⟨g, 0, none⟩) n cap) n (pcells (St low ((high - low + 1) / n) ((high - low + 1) % n)) n) ∧ Below W.heap.size W w' := by
  obtain ⟨i0, hi, hz0, hz1, hz2⟩ := info_parts info27
  obtain ⟨q, hq⟩ : ∃ q, q = (high - low + 1) / n := ⟨_, rfl⟩
  obtain ⟨r, hr⟩ : ∃ r, r = (high - low + 1) % n := ⟨_, rfl⟩
  have hr0 : 0 ≤ r := by rw [hr]; exact Int.emod_nonneg _ (by omega)
  have hr1 : r < n := by rw [hr]; exact Int.emod_lt_of_pos _ (by omega)
  have hq0 : 1 ≤ q := by rw [hq]; exact Int.le_ediv_of_mul_le (by omega) (by omega)
  have hq1 : q ≤ 2147483649 := by rw [hq]; exact Int.le_trans (Int.ediv_le_self _ (by omega)) (by omega)
  have hend : St low q r n = high + 1 := by
    rw [St.lin low q r hr0, hq, hr]
    have := Int.mul_ediv_add_emod (high - low + 1) n
    rw [Int.min_eq_right (by omega)]
    omega
  rw [← hq, ← hr]
  have HQ := Lib.hid hq; clear hq
  have HR := Lib.hid hr; clear hr
  have HE := Lib.hid hend; clear hend
  go_enter Tryd.func8, Tryd.ntmps8
  go_wp2_with (go_at_call 9; refine (check_ok _ _ _ h1 h2 h3).mono ?_; rintro e w' ⟨rfl, rfl⟩)
  go_loopw [36, 0, 10] (fun i lo v wr => ∃ k : Nat, i = .int .i64 k ∧ k ≤ n ∧ lo = .int .i64 (St low q r k) ∧ wr.ownsRow W.heap.size 41 2 v k (pcells (St low q r) k) ∧ Below W.heap.size W wr) (fun i _ _ _ => n - (intOf i).toNat)
  case atStart => exact ⟨0, rfl, by omega, rfl, World.ownsRow_nil _ _ _ _, Below.refl _ _⟩
  case round =>
    obtain ⟨k, rfl, hk, rfl, hown, hb⟩ := hrel
    have hqe := HQ.out.symm
    have hre := HR.out.symm
    by_cases hlt : k < n
    · have m0 := St.mono low q r (by omega) (show 0 ≤ k by omega)
      have m1 := St.mono low q r (by omega) (show k + 1 ≤ n by omega)
      have s0 : low ≤ St low q r k := m0
      have hend := HE.out
      have s1 : St low q r k ≤ high + 1 := by have := St.mono low q r (by omega) (show k ≤ n by omega); omega
      have M1 := Lib.hid (show St low q r (k + 1) ≤ high + 1 by omega)
      clear m0 m1 hend
      obtain ⟨s, hs⟩ : ∃ s, s = St low q r k := ⟨_, rfl⟩
      rw [← hs] at s0 s1
      have SK := Lib.hid (show St low q r (k + 1) = s + (if (k : Int) < r then q + 1 else q) by rw [hs]; rfl)
      rw [← hs]
      have HSS := Lib.hid hs
      clear hs
      by_cases hkr : (k : Int) < r
      · have bd : s + (q + 1) ≤ high + 1 := by have := M1.out; rw [SK.out, if_pos hkr] at this; exact this
        go_wp2_with (at_builtin; (refine wpList_push _ rfl _ _ 31 rfl W.heap.size 41 i0 (.agg #[.int .i64 0, .int .i64 0]) 2 16 Tryd.underlying31 hi hz0 hz1 hz2 rfl (by decide) _ _ _ rfl (hown.alloc _) ⟨wr.heap.size, 0, none⟩ 1 [.int .i64 s, .int .i64 (s + (q + 1) - 1)] rfl rfl (cell_two_new _ _ _ _) (one2 _ _ _ _) ?c3 ?c4 ?c5 ?_))
        case c3 => unfold maxLen; omega
        case c4 => omega
        case c5 => have := hb.size; simp; omega
        intro g cap w1 hown1 hg1
        have hb1 := hb.alloc hb.size (.cells #[.int .i64 s, .int .i64 (s + (q + 1) - 1)] 41)
        have hb2 := hb1.grown hg1 (by have := hb.size; simp; omega) (fun g hg => (hown.lt g hg).1)
        clear hb hb1 hg1 hown
        go_wp2_with fail
        go_roundw
        case rel => 
          refine ⟨k + 1, by go_num, by omega, ?_, ?_, hb2⟩
          · rw [SK.out, if_pos hkr]
          · rw [pcells, SK.out, if_pos hkr, ← HSS.out]; exact hown1
        case measure => simp [intOf]; omega
      · have bd : s + q ≤ high + 1 := by have := M1.out; rw [SK.out, if_neg hkr] at this; exact this
        go_wp2_with (at_builtin; (refine wpList_push _ rfl _ _ 31 rfl W.heap.size 41 i0 (.agg #[.int .i64 0, .int .i64 0]) 2 16 Tryd.underlying31 hi hz0 hz1 hz2 rfl (by decide) _ _ _ rfl (hown.alloc _) ⟨wr.heap.size, 0, none⟩ 1 [.int .i64 s, .int .i64 (s + q - 1)] rfl rfl (cell_two_new _ _ _ _) (one2 _ _ _ _) ?d3 ?d4 ?d5 ?_))
        case d3 => unfold maxLen; omega
        case d4 => omega
        case d5 => have := hb.size; simp; omega
        intro g cap w1 hown1 hg1
        have hb1 := hb.alloc hb.size (.cells #[.int .i64 s, .int .i64 (s + q - 1)] 41)
        have hb2 := hb1.grown hg1 (by have := hb.size; simp; omega) (fun g hg => (hown.lt g hg).1)
        clear hb hb1 hg1 hown
        go_wp2_with fail
        go_roundw
        case rel => 
          refine ⟨k + 1, by go_num, by omega, ?_, ?_, hb2⟩
          · rw [SK.out, if_neg (by omega)]
          · rw [pcells, SK.out, if_neg (by omega), ← HSS.out]; exact hown1
        case measure => simp [intOf]; omega
    · have hkn : k = n := by omega
      subst hkn
      rcases hown.2 with ⟨_, h0⟩ | ⟨g, cap, cur, rfl, _⟩
      · omega
      · go_wp2_with fail
        go_ret2
        exact ⟨g, cap, rfl, hown, hb⟩
end Go.Proofs.YtlmhdklleenjbaaDoor
