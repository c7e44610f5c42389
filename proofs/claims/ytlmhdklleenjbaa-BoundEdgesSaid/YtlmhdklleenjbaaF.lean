/- BoundEdges: the edge is there. -/
import Derived.Test.YtlmhdklleenjbaaE
import Derived.Test.YtlmhdklleenjbaaQIn
namespace Go.Proofs.Ytlmhdklleenjbaa
open Go.RowKit Go.Mine Go.Sort

theorem mem_edgeL (lo hi x : Int) : x ∈ edgeL lo hi ↔ (x = lo ∨ x = lo + 1 ∨ x = lo + (hi - lo) / 2 ∨ x = hi - 1 ∨ x = hi) ∧ lo ≤ x ∧ x ≤ hi := by
  unfold edgeL
  rw [(sorted_rise _).2]
  unfold kept five
  simp only [List.mem_filter, List.mem_cons, List.not_mem_nil, or_false, Bool.not_eq_true', decide_eq_false_iff_not]
  constructor
  · rintro ⟨h1, h2⟩; exact ⟨h1, by omega, by omega⟩
  · rintro ⟨h1, h2⟩; exact ⟨h1, by omega⟩
theorem edgeL_len (lo hi : Int) : (edgeL lo hi).length ≤ 5 := by
  have h1 := sorted_len (kept lo hi (five lo hi))
  have h2 : (kept lo hi (five lo hi)).length ≤ 5 := List.length_filter_le _ _
  unfold edgeL
  omega
theorem rise_lt {ys : List Int} (h : Rise ys) {i j : Nat} (hij : i < j) (hj : j < ys.length) : ys.getD i 0 < ys.getD j 0 := by
  have := List.pairwise_iff_getElem.1 h i j (by omega) hj hij
  simpa [hj, show i < ys.length by omega] using this
theorem edgeL_mem {lo hi : Int} {i : Nat} (hi' : i < (edgeL lo hi).length) : lo ≤ (edgeL lo hi).getD i 0 ∧ (edgeL lo hi).getD i 0 ≤ hi := by
  have : (edgeL lo hi).getD i 0 ∈ edgeL lo hi := by simp [hi']
  exact ((mem_edgeL lo hi _).1 this).2
theorem edgeL_first {lo hi : Int} (h : lo ≤ hi) : 0 < (edgeL lo hi).length ∧ (edgeL lo hi).getD 0 0 = lo ∧ (edgeL lo hi).getD ((edgeL lo hi).length - 1) 0 = hi := by
  have h1 : lo ∈ edgeL lo hi := (mem_edgeL lo hi lo).2 ⟨.inl rfl, by omega, h⟩
  have h2 : hi ∈ edgeL lo hi := (mem_edgeL lo hi hi).2 ⟨.inr (.inr (.inr (.inr rfl))), h, by omega⟩
  obtain ⟨j, hj, e1⟩ := List.mem_iff_getElem.1 h1
  obtain ⟨k, hk, e2⟩ := List.mem_iff_getElem.1 h2
  have g1 : (edgeL lo hi).getD j 0 = lo := by simp [hj, e1]
  have g2 : (edgeL lo hi).getD k 0 = hi := by simp [hk, e2]
  have hr := (sorted_rise (kept lo hi (five lo hi))).1
  refine ⟨by omega, ?_, ?_⟩
  · by_cases e : j = 0
    · subst e; exact g1
    · have a := rise_lt hr (show 0 < j by omega) hj
      have b := (edgeL_mem (lo := lo) (hi := hi) (i := 0) (by omega)).1
      unfold edgeL at g1 b
      rw [g1] at a
      omega
  · by_cases e : k = (edgeL lo hi).length - 1
    · rw [← e]; exact g2
    · have a := rise_lt hr (show k < (edgeL lo hi).length - 1 by omega) (show (edgeL lo hi).length - 1 < (edgeL lo hi).length by omega)
      have b := (edgeL_mem (lo := lo) (hi := hi) (i := (edgeL lo hi).length - 1) (by omega)).2
      have a' : (edgeL lo hi).getD k 0 < (edgeL lo hi).getD ((edgeL lo hi).length - 1) 0 := a
      rw [g2] at a'
      omega
theorem edgeL_fact : edgeL 1 9 = [1, 2, 5, 8, 9] := by
  refine rise_ext (sorted_rise _).1 (by unfold Rise; decide) fun x => ?_
  rw [mem_edgeL 1 9 x]
  simp only [List.mem_cons, List.not_mem_nil, or_false]
  omega
theorem edgeL_rise (lo hi : Int) {i : Nat} (h0 : 0 < i) (h : i < (edgeL lo hi).length) : (edgeL lo hi).getD (i - 1) 0 < (edgeL lo hi).getD i 0 :=
  rise_lt (sorted_rise (kept lo hi (five lo hi))).1 (show i - 1 < i by omega) h

theorem five_nine (W : World) : Calls Try.prog 6 #[.int .i64 1, .int .i64 9] W fun e w' => (∃ g cap, e = .returned (.tuple #[.slice (some ⟨g, 0, none⟩) 5 cap, .nilIface])) ∧ Below W.heap.size W w' := by
  refine (edges_ok 1 9 W (by omega) (by omega) (by omega)).mono ?_
  rintro e w' ⟨g, cap, rfl, _, hb⟩
  exact ⟨⟨g, cap, by rw [edgeL_fact]; rfl⟩, hb⟩

set_option maxHeartbeats 1000000 in
theorem boundEdges_walk (lo hi x : Int) (W : World) :
    Calls Try.prog 4 #[.int .i64 lo, .int .i64 hi, .int .i64 x] W fun e w' => e = .returned (.bool true) ∧ Below W.heap.size W w' := by
  by_cases hok : lo ≤ hi ∧ -1073741824 ≤ lo ∧ hi ≤ 1073741824
  · obtain ⟨h1, h2, h3⟩ := hok
    obtain ⟨L, hL⟩ : ∃ L, L = edgeL lo hi := ⟨_, rfl⟩
    have hE := edges_ok lo hi W h1 h2 h3
    have hlen := edgeL_len lo hi
    have hfirst := edgeL_first h1
    have hmem := fun i (h : i < (edgeL lo hi).length) => edgeL_mem (lo := lo) (hi := hi) h
    have hrise := fun i h0 h => edgeL_rise lo hi (i := i) h0 h
    have hIn := fun y => mem_edgeL lo hi y
    rw [← hL] at hE hlen hfirst
    simp only [← hL] at hmem hrise hIn
    clear hL
    obtain ⟨hl0, hf, hla⟩ := hfirst
    have HMEM := Lib.hid hmem
    have HRISE := Lib.hid hrise
    have HIN := Lib.hid hIn
    have HF := Lib.hid hf
    have HLA := Lib.hid hla
    clear hmem hrise hIn hf hla
    go_enter Try.func4, Try.ntmps4
    go_wp2_with fail
    refine hE.mono ?_
    clear hE
    rintro e w1 ⟨g, cap, rfl, ho, hb1⟩
    have HO1 := Lib.hid (IntsAt.of_owns ho)
    have HB1 := Lib.hid hb1
    clear ho hb1
    go_wp2_with fail
    refine (five_nine w1).mono ?_
    rintro e w2 ⟨⟨g9, c9, rfl⟩, hb2⟩
    have HO2 := Lib.hid (HO1.out.below (Nat.le_refl _) hb2)
    have HB2 := Lib.hid (HB1.out.trans (hb2.mono HB1.out.size))
    clear HO1 HB1 hb2
    go_wp2_with fail
    go_loopw [11] (fun i wr => ∃ k nq : Nat, i = .int .i64 k ∧ k ≤ L.length ∧ wr = w2.drewN nq) (fun i _ => L.length - (intOf i).toNat)
    case atStart => exact ⟨0, 0, rfl, by omega, (drewN_zero w2).symm⟩
    case round =>
      obtain ⟨k, nq, rfl, hk, rfl⟩ := hrel
      by_cases hlt : k < L.length
      · obtain ⟨b, o, hbo, hc⟩ := HO2.out k hlt
        simp only [Option.some.injEq, Addr.mk.injEq] at hbo
        obtain ⟨rfl, rfl, _⟩ := hbo
        rw [Nat.zero_add] at hc
        obtain ⟨m1, m2⟩ := HMEM.out k hlt
        by_cases hk0 : k = 0
        · subst hk0
          obtain ⟨u, hu⟩ : ∃ u, u = L.getD 0 0 := ⟨_, rfl⟩
          rw [← hu] at hc m1 m2
          clear hu
          have hd1 : decide (u < lo) = false := by simpa using m1
          have hd2 : decide (hi < u) = false := by simpa using m2
          have hd3 : decide ((0 : Int) < ((0 : Nat) : Int)) = false := rfl
          go_wp2_with fail
          go_quiet (fail)
          go_wp2_with fail
          go_roundw
          case rel => exact ⟨0 + 1, _, by go_num, by omega, rfl⟩
          case measure => simp [intOf]; omega
        · obtain ⟨j, rfl⟩ : ∃ j, k = j + 1 := ⟨k - 1, by omega⟩
          obtain ⟨b, o, hbo, hc2⟩ := HO2.out j (by omega)
          simp only [Option.some.injEq, Addr.mk.injEq] at hbo
          obtain ⟨rfl, rfl, _⟩ := hbo
          rw [Nat.zero_add] at hc2
          have m3 := HRISE.out (j + 1) (by omega) hlt
          simp only [Nat.add_sub_cancel] at m3
          obtain ⟨u, hu⟩ : ∃ u, u = L.getD (j + 1) 0 := ⟨_, rfl⟩
          obtain ⟨v, hv⟩ : ∃ v, v = L.getD j 0 := ⟨_, rfl⟩
          rw [← hu] at hc m1 m2 m3
          rw [← hv] at hc2 m3
          clear hu hv
          have hd1 : decide (u < lo) = false := by simpa using m1
          have hd2 : decide (hi < u) = false := by simpa using m2
          have hd3 : decide ((0 : Int) < ((j + 1 : Nat) : Int)) = true := by rw [decide_eq_true_iff]; omega
          have hd4 : decide (u ≤ v) = false := by rw [decide_eq_false_iff_not]; omega
          go_wp2_with fail
          go_quiet (fail)
          go_wp2_with fail
          go_roundw
          case rel => exact ⟨j + 1 + 1, _, by go_num, by omega, rfl⟩
          case measure => simp [intOf]; omega
      · have hke : k = L.length := by omega
        subst hke
        obtain ⟨b, o, hbo, c0⟩ := HO2.out 0 hl0
        simp only [Option.some.injEq, Addr.mk.injEq] at hbo
        obtain ⟨rfl, rfl, _⟩ := hbo
        obtain ⟨b, o, hbo, cL⟩ := HO2.out (L.length - 1) (by omega)
        simp only [Option.some.injEq, Addr.mk.injEq] at hbo
        obtain ⟨rfl, rfl, _⟩ := hbo
        rw [HF.out] at c0
        rw [HLA.out] at cL
        have hIN := fun (q : Nat) (y : Int) => In_any L y (some ⟨g, 0, none⟩) cap (w2.drewN q) (HO2.out.drewN q) (by unfold maxLen; omega)
        obtain ⟨m, hm⟩ : ∃ m, L.length = m + 1 := ⟨L.length - 1, by omega⟩
        simp only [hm] at hIN cL hlen
        rw [hm]
        have HINQ := Lib.hid hIN
        simp only [Nat.add_sub_cancel, Nat.zero_add] at cL c0
        clear hm hk hlt hl0 hIN
        have d1 : (lo != lo) = false := by simp
        have d2 : (hi != hi) = false := by simp
        have d3 : (((m + 1 : Nat) : Int) == 0) = false := by rw [beq_eq_false_iff_ne]; omega
        go_wp2_with fail
        · exact absurd (by assumption : ((m : Int) + 1 == 0) = true ∨ 5 < (m : Int) + 1) (by rw [beq_iff_eq]; omega)
        · refine (HINQ.out nq (lo + 1)).mono ?_
          rintro e w' ⟨rfl, rfl⟩
          rw [decide_eq_true ((HIN.out (lo + 1)).2 ⟨.inr (.inl rfl), by omega, by omega⟩)]
          go_wp2_with fail
          go_ret
          exact ⟨rfl, below_drewN HB2.out _⟩
        · go_ret
          exact ⟨rfl, below_drewN HB2.out _⟩
        · refine (HINQ.out nq (hi - 1)).mono ?_
          rintro e w' ⟨rfl, rfl⟩
          rw [decide_eq_true ((HIN.out (hi - 1)).2 ⟨.inr (.inr (.inr (.inl rfl))), by omega, by omega⟩)]
          go_wp2_with fail
          go_ret
          exact ⟨rfl, below_drewN HB2.out _⟩
        · go_ret
          exact ⟨rfl, below_drewN HB2.out _⟩
        · go_ret
          exact ⟨rfl, below_drewN HB2.out _⟩
  · have hE := edges_bad lo hi W (by omega)
    go_enter Try.func4, Try.ntmps4
    go_wp2_with fail
    refine hE.mono ?_
    clear hE
    rintro e w1 ⟨rfl, hb1⟩
    have HB1 := Lib.hid hb1
    clear hb1
    go_wp2_with fail
    refine (five_nine w1).mono ?_
    rintro e w2 ⟨⟨g9, c9, rfl⟩, hb2⟩
    have HB2 := Lib.hid (HB1.out.trans (hb2.mono HB1.out.size))
    clear hb2
    go_wp2_with fail
    go_ret
    exact ⟨rfl, HB2.out⟩
end Go.Proofs.Ytlmhdklleenjbaa
