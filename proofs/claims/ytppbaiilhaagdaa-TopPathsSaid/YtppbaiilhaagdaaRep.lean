/- math/bits.Mul64, Mul at 1 and a small number; slices.Repeat of one number. No conditions beyond n <= 12. -/
import Derived.Test.YtppbaiilhaagdaaRows
import Derived.Test.YtppbaiilhaagdaaMore
import Derived.Test.YtppbaiilhaagdaaInts
import Derived.Laws.CopyOwn
import Derived.Deep.RegionLaw
import Derived.Deep.OwnRows
namespace Go.Proofs.Ytppbaiilhaagdaa
open Go.RowKit Go.Mine Go.Deep

theorem mul64_any (n : Nat) (hn : n ≤ 12) (w : World) : Calls Try.prog 28 #[.int .u64 1, .int .u64 (n : Int)] w fun e w' => e = .returned (.tuple #[.int .u64 0, .int .u64 (n : Int)]) ∧ w = w' := by
  have h : n = 0 ∨ n = 1 ∨ n = 2 ∨ n = 3 ∨ n = 4 ∨ n = 5 ∨ n = 6 ∨ n = 7 ∨ n = 8 ∨ n = 9 ∨ n = 10 ∨ n = 11 ∨ n = 12 := by omega
  rcases h with rfl | rfl | rfl | rfl | rfl | rfl | rfl | rfl | rfl | rfl | rfl | rfl | rfl
  all_goals
    go_enter Try.func28, Try.ntmps28
    go_wp2_with fail
    go_ret2
    exact ⟨rfl, rfl⟩
theorem mul_any (n : Nat) (hn : n ≤ 12) (w : World) : Calls Try.prog 24 #[.int .u64 1, .int .u64 (n : Int)] w fun e w' => e = .returned (.tuple #[.int .u64 0, .int .u64 (n : Int)]) ∧ w = w' := by
  have H := mul64_any n hn w
  have hd : decide ((32 : Int) = 64) = false := rfl
  go_enter Try.func24, Try.ntmps24
  go_wp2_with fail
  refine H.mono ?_
  rintro e w' ⟨rfl, rfl⟩
  go_wp2_with fail
  go_ret2
  exact ⟨rfl, rfl⟩

theorem infoI3 : (Try.prog.info? 3).map (fun i => (i.zero, i.size, i.bytes)) = some (some (.int .i64 0), 1, 8) := by kernel_rfl
/-- The row so far: m of v, zeros behind. -/
def repAt (v : Int) (n m : Nat) : List Value := List.replicate m (Value.int .i64 v) ++ List.replicate (n - m) (Value.int .i64 0)
theorem repAt_len (v : Int) {n m : Nat} (h : m ≤ n) : (repAt v n m).length = n := by simp [repAt]; omega
theorem repAt_zero (v : Int) (n : Nat) : repAt v n 0 = List.replicate n (Value.int .i64 0) := by simp [repAt]
theorem repAt_full (v : Int) (n : Nat) : repAt v n n = (List.replicate n v).map (Value.int .i64) := by simp [repAt]
theorem repAt_splice (v : Int) {n m k : Nat} (h : m + k ≤ n) : splice (repAt v n m) m (List.replicate k (Value.int .i64 v)) = repAt v n (m + k) := by
  unfold splice repAt
  rw [List.take_append_of_le_length (by simp), List.take_of_length_le (by simp), List.length_replicate]
  rw [List.drop_append]
  simp only [List.length_replicate, List.drop_replicate]
  rw [show m - (m + k) = 0 by omega, List.replicate_zero, List.nil_append, ← List.append_assoc, List.replicate_append_replicate, show n - m - (m + k - m) = n - (m + k) by omega]
theorem repAt_get (v : Int) {n m j : Nat} (h : j < m) : (repAt v n m)[j]? = some (.int .i64 v) := by
  unfold repAt
  rw [List.getElem?_append_left (by simpa using h)]
  simp [h]
theorem made_ints (n : Nat) : (madeCells #[Value.int .i64 0] n).toList = List.replicate n (Value.int .i64 0) := by
  rw [toList_madeCells_one]
theorem sizeI3 : (Try.prog.info? 3).map (·.size) = some 1 := by kernel_rfl
set_option maxHeartbeats 1000000 in
theorem repeat_any (v : Int) (n ad : Nat) (w : World) (hn : n ≤ 12) (hc : w.cell? ⟨ad, 0, none⟩ = some (.int .i64 v)) :
    Calls Try.prog 21 #[.slice (some ⟨ad, 0, none⟩) 1 1, .int .i64 (n : Int)] w fun e w' => e = .returned (.slice (some ⟨w.heap.size, 0, none⟩) n n) ∧ w'.ownsRow w.heap.size 3 1 (.slice (some ⟨w.heap.size, 0, none⟩) n n) n ((List.replicate n v).map (Value.int .i64)) ∧ Below w.heap.size w w' := by
  have H := mul_any n hn w
  have hmk := run_make_row' (P := Try.prog) 27 3 (.int .i64 0) 8 Try.underlying27 infoI3 rfl .i64 .i64 n (by omega) (by omega)
  have hd0 : decide ((n : Int) < 0) = false := by simp
  have hd1 : decide ((0 : Int) < 0) = false := rfl
  have hd2 : decide ((9223372036854775807 : Int) < (n : Int)) = false := by simp; omega
  have hadl := World.block_lt_of_cell? w _ hc
  have hw0 : (w.alloc (.cells (madeCells #[Value.int .i64 0] n) 3)).heap[w.heap.size]? = some (.cells (repAt v n 0).toArray 3 (0, 0)) := by
    rw [heap_alloc_at _ _ rfl, repAt_zero, ← made_ints]
  have HW0 := Lib.hid hw0
  have hcw : (w.alloc (.cells (madeCells #[Value.int .i64 0] n) 3)).cell? ⟨ad, 0, none⟩ = some (.int .i64 v) := (World.cell?_of_block (w := w) (heap_alloc_old _ _ hadl)).trans hc
  have HCW := Lib.hid hcw
  have HC := Lib.hid hc
  have HB0 := Lib.hid (show Below w.heap.size w (w.alloc (.cells (madeCells #[Value.int .i64 0] n) 3)) from (Below.refl _ _).alloc (Nat.le_refl _) _)
  clear hw0 hcw
  go_enter Try.func21, Try.ntmps21
  go_wp2_with fail
  go_fit H
  clear H
  rintro e w1 ⟨rfl, rfl⟩
  obtain ⟨k0, hk0⟩ : ∃ k0, k0 = Nat.min 1 n := ⟨_, rfl⟩
  have hk0a : k0 ≤ n := by rw [hk0]; exact Nat.min_le_right _ _
  have hk0b : k0 ≤ 1 := by rw [hk0]; exact Nat.min_le_left _ _
  have hk0c : 0 < n → 0 < k0 := fun h => by rw [hk0]; exact Nat.lt_min.2 ⟨by omega, h⟩
  have hone : ∀ k, ∀ u ∈ List.replicate k (Value.int .i64 v), u.oneCell' = true := fun k u hu => by rw [(List.mem_replicate.1 hu).2]; rfl
  have HONE := Lib.hid hone
  have HK0 := Lib.hid hk0
  clear hone hk0
  go_wp2_with (refine wpList_copy_splice rfl _ _ 27 27 rfl 3 Try.underlying27 sizeI3 _ _ n n 1 1 rfl rfl w.heap.size 0 (repAt v n 0) 3 HW0.out (List.replicate k0 (Value.int .i64 v)) ?_ ?_ ?_ (HONE.out k0) w.heap.size w HB0.out (Nat.le_refl _) ?_)
  · rw [List.length_replicate]; exact HK0.out
  · intro hp
    intro j u hu
    try rw [List.length_replicate] at hp
    have hj : j = 0 := by
      rcases Nat.lt_or_ge j k0 with h | h
      · omega
      · rw [List.getElem?_eq_none (by simpa using h)] at hu; cases hu
    subst hj
    have : u = .int .i64 v := by
      rw [List.getElem?_replicate, if_pos hp] at hu
      exact (Option.some.inj hu).symm
    subst this
    first | exact HCW.out | exact HC.out
  · rw [List.length_replicate, repAt_len v (Nat.zero_le n)]; omega
  intro w3 hg3 hb3
  have HG3 := Lib.hid (show w3.heap[w.heap.size]? = some (.cells (repAt v n k0).toArray 3 (0, 0)) by
    have := hg3.out
    rw [repAt_splice v (by omega), Nat.zero_add] at this
    exact this)
  have HB3 := Lib.hid hb3
  clear hg3 hb3 HW0 HCW HB0
  go_wp2_with fail
  go_loopw [8] (fun mv wr => ∃ m : Nat, mv = .int .i64 m ∧ m ≤ n ∧ (0 < n → 0 < m) ∧ RowKit.Hid (wr.heap[w.heap.size]? = some (.cells (repAt v n m).toArray 3 (0, 0))) ∧ RowKit.Hid (Below w.heap.size w wr)) (fun mv _ => n - (intOf mv).toNat)
  case atStart => exact ⟨k0, rfl, hk0a, hk0c, HG3, HB3⟩
  clear HG3 HB3
  case round =>
    obtain ⟨m, rfl, hm, hm0, hg, hb⟩ := hrel
    by_cases hmn : m < n
    · have hmp : 0 < m := hm0 (by omega)
      have hd : decide ((m : Int) < (n : Int)) = true := by simp; omega
      obtain ⟨k, hk⟩ : ∃ k, k = Nat.min m (n - m) := ⟨_, rfl⟩
      have hk1 : k ≤ m := by rw [hk]; exact Nat.min_le_left _ _
      have hk2 : k ≤ n - m := by rw [hk]; exact Nat.min_le_right _ _
      have hk3 : 0 < k := by rw [hk]; exact Nat.lt_min.2 ⟨hmp, by omega⟩
      have HK := Lib.hid hk
      have HG := Lib.hid hg.out
      have HB := Lib.hid hb.out
      clear hk hg hb
      have hm0' : (0 : Int) ≤ (m : Int) := by omega
      have hmn' : (m : Int) ≤ (n : Int) := by omega
      have hmnn : m ≤ n := hm
      have hnm : ¬ (n = m) := by omega
      have HL := Lib.hid (show m + (List.replicate k (Value.int .i64 v)).length ≤ (repAt v n m).length by rw [List.length_replicate, repAt_len v hm]; omega)
      have HCE := Lib.hid (show ∀ j u, (List.replicate k (Value.int .i64 v))[j]? = some u → (repAt v n m)[j]? = some u from fun j u hu => by
        have hj : j < k := by
          rcases Nat.lt_or_ge j k with h | h
          · exact h
          · rw [List.getElem?_eq_none (by simpa using h)] at hu; cases hu
        rw [List.getElem?_replicate, if_pos hj] at hu
        rw [repAt_get v (show j < m by omega)]
        exact hu)
      have HCD := Lib.hid (show ∀ j u, (repAt v n m)[j]? = some u → wr.drew.cell? ((⟨w.heap.size, 0, none⟩ : Addr).add j) = some u from fun j u hu => by
        rw [WideShapes.add_plain, cell_of_row wr.drew _ _ _ _ _ HG.out]
        simpa using hu)
      have hrun := run_copy_row (P := Try.prog) wr.drew 27 27 3 3 w.heap.size m (n - m) (n - m) ⟨w.heap.size, 0, none⟩ m n (repAt v n m).toArray 3 (List.replicate k (Value.int .i64 v)) Try.underlying27 sizeI3 HG.out (by rw [List.length_replicate]; exact HK.out) (fun j u hu => HCD.out j u (HCE.out j u hu)) (by simpa using HL.out) (HONE.out k)
      obtain ⟨w4, hw4⟩ : ∃ w4, w4 = wr.drew.setRow w.heap.size ((repAt v n m).toArray.toList.take m ++ List.replicate k (Value.int .i64 v) ++ (repAt v n m).toArray.toList.drop (m + (List.replicate k (Value.int .i64 v)).length)).toArray := ⟨_, rfl⟩
      rw [← hw4, List.length_replicate] at hrun
      have hg4 : w4.heap[w.heap.size]? = some (.cells (splice (repAt v n m) m (List.replicate k (Value.int .i64 v))).toArray 3 (0, 0)) := by
        rw [hw4]
        simpa [splice] using setRow_heap wr.drew w.heap.size _ _ 3 _ HG.out
      have hb4 : Below w.heap.size w w4 := by rw [hw4]; exact below_setRow HB.out.drew (Nat.le_refl _) _
      rw [repAt_splice v (by omega)] at hg4
      have HG4 := Lib.hid hg4
      have HB4 := Lib.hid hb4
      clear hw4 hg4 hb4
      go_wp2_with fail
      go_region
      go_wp2_with fail
      go_roundw
      case rel => exact ⟨m + k, by simp, by omega, by omega, HG4, HB4⟩
      case measure => simp [intOf]; omega
    · obtain rfl : m = n := by omega
      have hd : decide ((m : Int) < (m : Int)) = false := by simp
      have HOW := Lib.hid (show wr.ownsRow w.heap.size 3 1 (.slice (some ⟨w.heap.size, 0, none⟩) m m) m ((List.replicate m v).map (Value.int .i64)) by
        have h := owns_laid (base := w.heap.size) (n := m) (size := 1) hg.out (Nat.le_refl _) (by simp [repAt_len v (Nat.le_refl m)]) (by unfold maxLen; omega)
        rwa [show (repAt v m m).toArray.toList = (List.replicate m v).map (Value.int .i64) by simp [repAt_full]] at h)
      have HB := Lib.hid hb.out
      clear hg hb
      go_wp2_with fail
      go_ret
      exact ⟨rfl, HOW.out, HB.out⟩
end Go.Proofs.Ytppbaiilhaagdaa
