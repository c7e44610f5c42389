/- blamed; SpectCounts' walk: the four numbers of a line are all tests together; the first two all that failed. No conditions but what the reading tells. -/
import Derived.Test.YthfiecakmlpdiaaSpect4
import Derived.Test.YthfiecakmlpdiaaSInts
namespace Go.Proofs.Ythfiecakmlpdiaa
open Go.RowKit Go.Mine Go.Mine.Suite Go.Mine.Spec Go.Mine.Stab

theorem fact_pok : pok 2 [1, 2] [false, true] := ⟨⟨by decide, by decide, by decide, by decide⟩, rfl⟩
theorem fact_LO : LO [1, 2] [false, true] 1 0 := by unfold LO; left; decide
theorem fact_order (d : Nat → Nat) (hv : Vals d 2) (hs : SortedR (LO [1, 2] [false, true]) d 0 2) : ((List.range 2).map fun p => ((d p : Nat) : Int)) = [1, 0] := by
  have h0 := hv.1 0 (by omega)
  have h1 := hv.1 1 (by omega)
  have hne : d 0 ≠ d 1 := fun h => by have := hv.2 0 1 h; omega
  have hso := hs 0 1 (Nat.zero_le _) (by omega) (by omega)
  have e : d 0 = 1 ∧ d 1 = 0 := by
    by_cases e0 : d 0 = 0
    · exfalso
      have e1 : d 1 = 1 := by omega
      rw [e0, e1] at hso
      exact (LO_ord _ _).asymm _ _ fact_LO hso
    · omega
  simp [List.range, List.range.loop, e.1, e.2]
set_option maxHeartbeats 1000000 in
theorem blamed_any (W : World) : Calls Try.prog 5 #[] W fun e w' => e = .returned (.bool true) ∧ Below W.heap.size W w' := by
  obtain ⟨w1, hw1⟩ : ∃ w1, w1 = (W.alloc (.cells #[.int .u32 1, .int .u32 2] 36)).alloc (.cells #[.bool false, .bool true] 4) := ⟨_, rfl⟩
  have hb1 : Below W.heap.size W w1 := by rw [hw1]; exact ((Below.refl _ _).alloc (Nat.le_refl _) _).alloc (by simp) _
  have hn1 : w1.heap[W.heap.size]? = some (.cells #[.int .u32 1, .int .u32 2] 36 (0, 0)) := by rw [hw1, heap_alloc_old _ _ (by simp)]; exact heap_alloc_new _ _
  have hn2 : w1.heap[W.heap.size + 1]? = some (.cells #[.bool false, .bool true] 4 (0, 0)) := by rw [hw1]; exact heap_alloc_at _ _ (by simp)
  have ht : IntsAt .u32 w1 (some ⟨W.heap.size, 0, none⟩) (cast [1, 2]) := fun j hj => by
    have h : j = 0 ∨ j = 1 := by simp [cast] at hj; omega
    rcases h with rfl | rfl
    · exact ⟨_, _, rfl, by rw [cell_of_row _ _ 0 _ _ _ hn1]; rfl⟩
    · exact ⟨_, _, rfl, by rw [cell_of_row _ _ 1 _ _ _ hn1]; rfl⟩
  have hf : BoolsAt w1 (some ⟨W.heap.size + 1, 0, none⟩) [false, true] := fun j hj => by
    have h : j = 0 ∨ j = 1 := by simp at hj; omega
    rcases h with rfl | rfl
    · exact ⟨_, _, rfl, by rw [cell_of_row _ _ 0 _ _ _ hn2]; rfl⟩
    · exact ⟨_, _, rfl, by rw [cell_of_row _ _ 1 _ _ _ hn2]; rfl⟩
  have HO := Lib.hid (order_any 2 [1, 2] [false, true] (some ⟨W.heap.size, 0, none⟩) (some ⟨W.heap.size + 1, 0, none⟩) 2 2 w1 ht (by decide) (by decide) hf (by decide))
  have HB1 := Lib.hid hb1
  clear hb1 hn1 hn2 ht hf
  go_enter Try.func5, Try.ntmps5
  go_wp2_with fail
  rw [← hw1]
  clear hw1
  go_fit HO.out
  clear HO
  rintro e w2 ⟨hp, hb2⟩
  rcases hp with ⟨_, ao, cap, d, rfl, hi, hv, hs⟩ | ⟨h, _⟩
  rotate_left
  · exact absurd fact_pok h
  rw [show ((2 : Int)).toNat = 2 from rfl] at hi hv hs ⊢
  rw [fact_order d hv hs] at hi
  have HI := Lib.hid hi
  have HB2 := Lib.hid (HB1.out.trans (hb2.mono HB1.out.size))
  obtain ⟨w3, hw3⟩ : ∃ w3, w3 = w2.alloc (.cells #[.int .i64 1, .int .i64 0] 3) := ⟨_, rfl⟩
  have hb3 : Below w2.heap.size w2 w3 := by rw [hw3]; exact (Below.refl _ _).alloc (Nat.le_refl _) _
  have hn3 : w3.heap[w2.heap.size]? = some (.cells #[.int .i64 1, .int .i64 0] 3 (0, 0)) := by rw [hw3]; exact heap_alloc_new _ _
  have hy : IntsAt .i64 w3 (some ⟨w2.heap.size, 0, none⟩) [1, 0] := fun j hj => by
    have h : j = 0 ∨ j = 1 := by simp at hj; omega
    rcases h with rfl | rfl
    · exact ⟨_, _, rfl, by rw [cell_of_row _ _ 0 _ _ _ hn3]; rfl⟩
    · exact ⟨_, _, rfl, by rw [cell_of_row _ _ 1 _ _ _ hn3]; rfl⟩
  have HS := Lib.hid (Ints_any [1, 0] [1, 0] ao (some ⟨w2.heap.size, 0, none⟩) cap 2 w3 (HI.out.below (Nat.le_refl _) hb3) hy (by decide))
  rw [show decide (([1, 0] : List Int) = [1, 0]) = true from rfl] at HS
  have HB3 := Lib.hid (HB2.out.trans (hb3.mono HB2.out.size))
  clear hi hv hs hb2 hb3 hn3 hy
  go_wp2_with fail
  rw [← hw3]
  clear hw3
  go_fit HS.out
  clear HS
  rintro e w4 ⟨rfl, q, rfl⟩
  have HB4 := Lib.hid (below_drewN HB3.out q)
  go_wp2_with fail
  go_ret
  exact ⟨rfl, HB4.out⟩

set_option maxHeartbeats 2000000 in
set_option maxRecDepth 100000 in
theorem spectCounts_walk (W : World) (n : Int) (ts : List Nat) (fs : List Bool) (ao fo : Option Addr) (c d : Nat) (hx : IntsAt .u32 W ao (cast ts)) (h32 : ∀ t ∈ ts, t < 4294967296) (hl : ts.length ≤ maxLen) (hf : BoolsAt W fo fs) (hfl : fs.length ≤ maxLen) :
    Calls Try.prog 4 #[.int .i64 n, .slice ao ts.length c, .slice fo fs.length d] W fun e w' => e = .returned (.bool true) ∧ Below W.heap.size W w' := by
  have HX := Lib.hid (fun (w : World) (h : Below W.heap.size W w) => And.intro (hx.below (Nat.le_refl _) h) (hf.below (Nat.le_refl _) h))
  have H32 := Lib.hid (And.intro h32 (And.intro hl hfl))
  have HBL := Lib.hid (blamed_any W)
  unfold maxLen at hl hfl
  clear hx h32 hf
  go_enter Try.func4, Try.ntmps4
  go_wp2_with fail
  go_fit HBL.out
  clear HBL
  rintro e w1 ⟨rfl, hb1⟩
  have HB1 := Lib.hid hb1
  have HC := Lib.hid (counts_any n ts fs ao fo c d w1 (HX.out w1 hb1).1 H32.out.1 H32.out.2.1 (HX.out w1 hb1).2 H32.out.2.2)
  clear hb1
  go_wp2_with fail
  go_fit HC.out
  clear HC
  rintro e w2 ⟨hp, hb2⟩
  have HB2 := Lib.hid (HB1.out.trans (hb2.mono HB1.out.size))
  clear hb2
  rcases hp with ⟨hs, a1, c1, rfl, hf1⟩ | ⟨hs, q, rfl, hq⟩
  rotate_left
  · clear hs hq
    go_wp2_with fail
    go_ret
    exact ⟨rfl, HB2.out⟩
  obtain ⟨N, rfl⟩ := Int.eq_ofNat_of_zero_le hs.1.1
  have hN : N ≤ 32 := by have := hs.1.2.1; omega
  have ht12 : ts.length ≤ 12 := hs.1.2.2.1
  have hle : ts.length = fs.length := hs.2
  rw [show ((N : Int)).toNat = N from rfl] at hf1 ⊢
  have HF1 := Lib.hid hf1
  have HLE := Lib.hid hle
  have HFS := Lib.hid (HX.out w2 HB2.out).2
  have hf12 : fs.length ≤ 12 := by omega
  clear hs hf1 hle
  go_wp2_with fail
  go_loop [10, 11] (fun bv iv => ∃ i b : Nat, bv = .int .i64 b ∧ iv = .int .i64 i ∧ i ≤ fs.length ∧ b ≤ i ∧ RowKit.Hid (b = bad fs i)) (fun _ iv => fs.length - (intOf iv).toNat)
  case atStart => exact ⟨0, 0, rfl, rfl, by omega, by omega, Lib.hid rfl⟩
  case round =>
    obtain ⟨i, b, rfl, rfl, hi, hbi, hb⟩ := hrel
    have HBD := Lib.hid hb.out
    clear hb
    by_cases hil : i < fs.length
    · obtain ⟨bo, oo, rfl, hc⟩ := HFS.out i hil
      obtain ⟨f, hfe⟩ : ∃ f, f = fs.getD i false := ⟨_, rfl⟩
      rw [← hfe] at hc
      have HNX := Lib.hid (show bad fs (i + 1) = b + (if f then 1 else 0) by rw [hfe, HBD.out]; rfl)
      clear hfe
      cases f with
      | true =>
        go_wp2_with fail
        go_round
        case rel => exact ⟨i + 1, b + 1, by go_num, by go_num, by omega, by omega, Lib.hid HNX.out.symm⟩
        case measure => simp [intOf]; omega
      | false =>
        go_wp2_with fail
        go_round
        case rel => exact ⟨i + 1, b, rfl, by go_num, by omega, by omega, Lib.hid HNX.out.symm⟩
        case measure => simp [intOf]; omega
    · obtain rfl : i = fs.length := by omega
      go_wp2_with fail
      go_loopw [12] (fun xv wr => ∃ x nq : Nat, xv = .int .i64 x ∧ x ≤ N ∧ wr = w2.drewN nq) (fun xv _ => N - (intOf xv).toNat)
      case atStart => exact ⟨0, 0, rfl, by omega, (drewN_zero _).symm⟩
      case round =>
        obtain ⟨x, nq, rfl, hx, rfl⟩ := hrel
        by_cases hxN : x < N
        · obtain ⟨bq, oq, rfl, hq⟩ := HF1.out x (by rw [rows4_len]; exact hxN)
          rw [rows4_get ts fs x N hxN] at hq
          have e0 : w2.cell? ⟨bq, oq + x * 4, none⟩ = some (.int .i64 ((cK ts fs x 0 ts.length : Nat) : Int)) := hq 0 (by omega)
          have e1 : w2.cell? ⟨bq, oq + x * 4 + 1, none⟩ = some (.int .i64 ((cK ts fs x 1 ts.length : Nat) : Int)) := hq 1 (by omega)
          have e2 : w2.cell? ⟨bq, oq + x * 4 + 2, none⟩ = some (.int .i64 ((cK ts fs x 2 ts.length : Nat) : Int)) := hq 2 (by omega)
          have e3 : w2.cell? ⟨bq, oq + x * 4 + 3, none⟩ = some (.int .i64 ((cK ts fs x 3 ts.length : Nat) : Int)) := hq 3 (by omega)
          have s1 := cK_bad ts fs x ts.length
          have s2 := cK_all ts fs x ts.length
          rw [HLE.out, ← HBD.out, ← HLE.out] at s1
          obtain ⟨A, hA⟩ : ∃ A, A = cK ts fs x 0 ts.length := ⟨_, rfl⟩
          obtain ⟨B, hB⟩ : ∃ B, B = cK ts fs x 1 ts.length := ⟨_, rfl⟩
          obtain ⟨C, hC⟩ : ∃ C, C = cK ts fs x 2 ts.length := ⟨_, rfl⟩
          obtain ⟨D, hD⟩ : ∃ D, D = cK ts fs x 3 ts.length := ⟨_, rfl⟩
          rw [← hA] at e0 s1 s2
          rw [← hB] at e1 s1 s2
          rw [← hC] at e2 s2
          rw [← hD] at e3 s2
          have g1 : ((A : Int) + (B : Int) != (b : Int)) = false := by rw [bne_eq_false_iff_eq]; omega
          have g2 : ((A : Int) + (B : Int) + (C : Int) + (D : Int) != (ts.length : Int)) = false := by rw [bne_eq_false_iff_eq]; omega
          have a1 : A ≤ 12 := by omega
          have a2 : B ≤ 12 := by omega
          have a3 : C ≤ 12 := by omega
          have a4 : D ≤ 12 := by omega
          have d1 : decide ((A : Int) < 0) = false := by simp
          have d2 : decide ((B : Int) < 0) = false := by simp
          have d3 : decide ((C : Int) < 0) = false := by simp
          have d4 : decide ((D : Int) < 0) = false := by simp
          clear hq s1 s2 hA hB hC hD
          go_wp2_with fail
          go_quiet (fail)
          go_wp2_with fail
          go_roundw
          case rel => exact ⟨x + 1, _, by go_num, by omega, rfl⟩
          case measure => simp [intOf]; omega
        · obtain rfl : x = N := by omega
          go_wp2_with fail
          go_ret
          exact ⟨by first | rfl | (simp; done), below_drewN HB2.out _⟩
end Go.Proofs.Ythfiecakmlpdiaa
