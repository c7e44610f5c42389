/- assayerref1.SplitOf. assayerref1.far, PartFault, Large, GenFault at a desk's generators. assayerref1.Large, GenFault at a desk's generators. assayerref1.CountOf at a desk's generators. -/
import Derived.Test.YtalbllijahiiiaaGreatDoorDkAZ
import Derived.StillTailTactics
section
namespace Go.Proofs.YtalbllijahiiiaaGreatDoor
open Go.RowKit Go.Mine Go.Mine.Desk

set_option maxRecDepth 100000 in
set_option maxHeartbeats 1000000 in
theorem SplitOf_any (st ga : Int) (w : World) : Calls Tryz.prog 35 #[.agg #[.int .u64 st, .int .u64 ga]] w fun e w' => e = .returned (.tuple #[seedV (Seed.mk st ga).left, seedV (Seed.mk st ga).own]) ∧ Below w.heap.size w w' := by
  obtain ⟨s1, hs1⟩ : ∃ s1, s1 = (Seed.mk st ga).next := ⟨_, rfl⟩
  obtain ⟨s2, hs2⟩ : ∃ s2, s2 = s1.next := ⟨_, rfl⟩
  obtain ⟨o1, ho1⟩ : ∃ o1, o1 = mixZ s1.st := ⟨_, rfl⟩
  obtain ⟨o2, ho2⟩ : ∃ o2, o2 = mixZ s2.st := ⟨_, rfl⟩
  have hb1' : 0 ≤ s1.st ∧ s1.st < 18446744073709551616 := by rw [hs1]; exact wrap_b _
  have hb2' : 0 ≤ s2.st ∧ s2.st < 18446744073709551616 := by rw [hs2]; exact wrap_b _
  have HN1 := Lib.hid (fun w => Step_any st ga w)
  have HN2 := Lib.hid (fun w => Step_any s1.st s1.ga w)
  rw [← hs1] at HN1
  rw [show Seed.mk s1.st s1.ga = s1 from rfl, ← hs2] at HN2
  have HM1 := Lib.hid (fun w => Mix_any s1.st hb1' w)
  have HM2 := Lib.hid (fun w => Mix_any s2.st hb2' w)
  rw [← ho1] at HM1
  rw [← ho2] at HM2
  have HRES := Lib.hid (show (Seed.mk st ga).left = s2 ∧ (Seed.mk st ga).own = ⟨o1, bits .or .u64 o2 1⟩ from ⟨by rw [hs2, hs1]; rfl, by rw [ho1, ho2, hs2, hs1]; rfl⟩)
  obtain ⟨a1, b1⟩ := s1
  obtain ⟨a2, b2⟩ := s2
  clear hs1 hs2 ho1 ho2 hb1' hb2'
  obtain ⟨w0, hw0⟩ : ∃ w0, w0 = ((w.alloc (.cells #[.int .u64 st, .int .u64 ga] 87)).alloc (.cells #[.int .u64 0, .int .u64 0] 87)).alloc (.cells #[.int .u64 0, .int .u64 0] 87) := ⟨_, rfl⟩
  have hb0 : Below w.heap.size w w0 := by rw [hw0]; exact (((Below.refl w.heap.size w).alloc (Nat.le_refl _) _).alloc (by simp) _).alloc (by simp; omega) _
  obtain ⟨B, hB⟩ : ∃ B, w.heap.size = B := ⟨_, rfl⟩
  have k1 : Blk w0 (B + 1) 87 #[.int .u64 0, .int .u64 0] := by rw [hw0, ← hB]; exact (show Blk ((w.alloc (.cells #[.int .u64 st, .int .u64 ga] 87)).alloc (.cells #[.int .u64 0, .int .u64 0] 87)) (w.heap.size + 1) _ _ by have := Blk.new (w.alloc (.cells #[.int .u64 st, .int .u64 ga] 87)) 87 #[.int .u64 0, .int .u64 0]; simpa using this).alloc _
  have k2 : Blk w0 (B + 1 + 1) 87 #[.int .u64 0, .int .u64 0] := by rw [hw0, ← hB]; have := Blk.new ((w.alloc (.cells #[.int .u64 st, .int .u64 ga] 87)).alloc (.cells #[.int .u64 0, .int .u64 0] 87)) 87 #[.int .u64 0, .int .u64 0]; simpa using this
  have HK := Lib.hid (And.intro hb0 (And.intro k1 k2))
  have HC1 := Lib.hid (HN1.out w0)
  rw [hw0] at HC1
  have HW0 := Lib.hid hw0
  have HBB := Lib.hid hB
  clear hb0 k1 k2 hw0 HN1 hB
  go_enter Tryz.func35, Tryz.ntmps35
  go_wp2_with fail
  refine HC1.out.mono ?_
  clear HC1
  rintro e w1 ⟨rfl, hb1⟩
  rw [← HW0.out] at hb1
  simp only [seedV]
  have HB1 := Lib.hid (And.intro (HK.out.1.trans (hb1.mono HK.out.1.size)) (And.intro (HK.out.2.1.below hb1) (HK.out.2.2.below hb1)))
  have HC2 := Lib.hid (HN2.out (w1.alloc (.cells #[.int .u64 a1, .int .u64 b1] 87)))
  clear hb1
  go_wp2_with fail
  refine HC2.out.mono ?_
  clear HC2
  rintro e w2 ⟨rfl, hb2⟩
  simp only [seedV]
  obtain ⟨Q1, hQ1⟩ : ∃ Q1, Q1 = w1.heap.size := ⟨_, rfl⟩
  have hz1 : B + 1 + 1 < w1.heap.size := HB1.out.2.2.lt
  have hba : Below w1.heap.size w1 (w1.alloc (.cells #[.int .u64 a1, .int .u64 b1] 87)) := (Below.refl _ _).alloc (Nat.le_refl _) _
  have hb12 := hba.trans (hb2.mono hba.size)
  have kq1 : Blk w2 Q1 87 #[.int .u64 a1, .int .u64 b1] := by rw [hQ1]; exact (Blk.new _ _ _).below hb2
  have hz2 : Q1 < w2.heap.size := kq1.lt
  have HB2 := Lib.hid (And.intro (HB1.out.1.trans (hb12.mono HB1.out.1.size)) (And.intro (HB1.out.2.1.below hb12) (And.intro (HB1.out.2.2.below hb12) kq1)))
  rw [← hQ1, HBB.out]
  have hQB : B + 1 + 1 < Q1 := by rw [hQ1]; exact hz1
  clear hba hb12 hb2 kq1 hz1 hQ1
  obtain ⟨w3, hw3⟩ : ∃ w3, w3 = w2.alloc (.cells #[.int .u64 a2, .int .u64 b2] 87) := ⟨_, rfl⟩
  obtain ⟨Q2, hQ2⟩ : ∃ Q2, Q2 = w2.heap.size := ⟨_, rfl⟩
  have k1 : Blk w3 (B + 1) 87 #[.int .u64 0, .int .u64 0] := by rw [hw3]; exact HB2.out.2.1.alloc _
  have k2 : Blk w3 (B + 1 + 1) 87 #[.int .u64 0, .int .u64 0] := by rw [hw3]; exact HB2.out.2.2.1.alloc _
  have kq1 : Blk w3 Q1 87 #[.int .u64 a1, .int .u64 b1] := by rw [hw3]; exact HB2.out.2.2.2.alloc _
  have kq2 : Blk w3 Q2 87 #[.int .u64 a2, .int .u64 b2] := by rw [hw3, hQ2]; exact Blk.new _ _ _
  have hbw3 : Below w.heap.size w w3 := by rw [hw3]; exact HB2.out.1.alloc HB2.out.1.size _
  have hQ12 : Q1 < Q2 := by rw [hQ2]; exact hz2
  have HW3 := Lib.hid hw3
  have HQ2 := Lib.hid hQ2
  have d0 : w3.cell? ⟨B + 1, 0, none⟩ = some (.int .u64 0) := k1.cell 0
  have d1 : w3.cell? ⟨B + 1, 1, none⟩ = some (.int .u64 0) := k1.cell 1
  have d2 : w3.cell? ⟨B + 1 + 1, 0, none⟩ = some (.int .u64 0) := k2.cell 0
  have d3 : w3.cell? ⟨B + 1 + 1, 1, none⟩ = some (.int .u64 0) := k2.cell 1
  have e0 : w3.cell? ⟨Q1, 0, none⟩ = some (.int .u64 a1) := kq1.cell 0
  have e1 : w3.cell? ⟨Q1, 1, none⟩ = some (.int .u64 b1) := kq1.cell 1
  have e2 : w3.cell? ⟨Q2, 0, none⟩ = some (.int .u64 a2) := kq2.cell 0
  have e3 : w3.cell? ⟨Q2, 1, none⟩ = some (.int .u64 b2) := kq2.cell 1
  have f0 := k1.froz 0
  have f1 := k1.froz 1
  have f2 := k2.froz 0
  have f3 := k2.froz 1
  have HF := Lib.hid hbw3
  have n1 : B + 1 ≠ Q1 := by omega
  have n2 : B + 1 + 1 ≠ Q1 := by omega
  have n3 : B + 1 ≠ Q2 := by omega
  have n4 : B + 1 + 1 ≠ Q2 := by omega
  have n5 : Q1 ≠ Q2 := by omega
  clear hw3 hQ2 k1 k2 kq1 kq2 hbw3 hz2
  go_wp2_with fail
  rw [← HQ2.out, ← HW3.out]
  have hBe := HBB.out
  refine wp_region_held_drew (S := fun w' => w'.cell? ⟨Q1, 0, none⟩ = some (.int .u64 a1) ∧ w'.cell? ⟨Q2, 0, none⟩ = some (.int .u64 a2) ∧ w'.cell? ⟨Q2, 1, none⟩ = some (.int .u64 b2)) (by kernel_rfl) ?hS0 (fun hHeld => ?_)
  case hS0 =>
    exact ⟨e0, e2, e3⟩
  refine wpAnyH_take (i := 0) (v := ?vv0) rfl (by kernel_rfl) (by kernel_rfl) (by kernel_rfl) (fun _ _ _ h => h) (Or.inl ⟨by rfl, ?hy0⟩) (by assumption) ?rest0
  case hy0 => ((intro w hSw; (try dsimp only at hSw); go_simp) <;> with_reducible rfl)
  try simp only [sA, sC, Act.put, sD, sE, sF]
  refine wpAnyH_take (i := 1) (v := ?vv1) rfl (by kernel_rfl) (by kernel_rfl) (by kernel_rfl) (fun _ _ _ h => h) (Or.inl ⟨by rfl, ?hy1⟩) (by assumption) ?rest1
  case hy1 => ((intro w hSw; (try dsimp only at hSw); go_simp) <;> with_reducible rfl)
  try simp only [sA, sB, sC, Act.put, sD, sE, sF]
  refine wpAnyH_take (i := 2) (v := ?vv2) rfl (by kernel_rfl) (by kernel_rfl) (by kernel_rfl) (fun _ _ _ h => h) (Or.inl ⟨by rfl, ?hy2⟩) (by assumption) ?rest2
  case hy2 => ((intro w hSw; (try dsimp only at hSw); go_simp) <;> with_reducible rfl)
  try simp only [sA, sB, sC, Act.put, sD, sE, sF]
  refine wpAnyH_take (i := 4) (v := ?vv4) rfl (by kernel_rfl) (by kernel_rfl) (by kernel_rfl) (fun _ _ _ h => h) (Or.inl ⟨by rfl, ?hy4⟩) (by assumption) ?rest4
  case hy4 => ((intro w hSw; (try dsimp only at hSw); go_simp) <;> with_reducible rfl)
  try simp only [sA, sB, sC, Act.put, sD, sE, sF]
  refine wpAnyH_take (i := 5) (v := ?vv5) rfl (by kernel_rfl) (by kernel_rfl) (by kernel_rfl) (fun _ _ _ h => h) (Or.inl ⟨by rfl, ?hy5⟩) (by assumption) ?rest5
  case hy5 => ((intro w hSw; (try dsimp only at hSw); go_simp) <;> with_reducible rfl)
  try simp only [sA, sB, sC, Act.put, sD, sE, sF]
  refine wpAnyH_ready (rs := [3]) (by kernel_rfl) (by simp) ?_
  refine AllReadyH.cons rfl (fun K hK => ?_) AllReadyH.nil
  go_simp
  go_at_call 70
  refine (HM1.out _).mono ?_
  rintro e w' ⟨rfl, rfl⟩
  refine hK.out _ _ ?hS3 (fun hHeld => ?_)
  case hS3 =>
    exact ⟨e0, e2, e3⟩
  clear hK K
  try simp only [sA, sB, sC, Act.put, sD, sE, sF]
  refine wpAnyH_ready (rs := [6]) (by kernel_rfl) (by simp) ?_
  refine AllReadyH.cons rfl (fun K hK => ?_) AllReadyH.nil
  go_simp
  go_at_call 70
  refine (HM2.out _).mono ?_
  rintro e w' ⟨rfl, rfl⟩
  refine hK.out _ _ ?hS6 (fun hHeld => ?_)
  case hS6 =>
    exact ⟨e0, e2, e3⟩
  clear hK K
  try simp only [sA, sB, sC, Act.put, sD, sE, sF]
  refine wpAnyH_take (i := 7) (v := ?vv7) rfl (by kernel_rfl) (by kernel_rfl) (by kernel_rfl) (fun _ _ _ h => h) (Or.inl ⟨by rfl, ?hy7⟩) (by assumption) ?rest7
  case hy7 => ((intro w hSw; (try dsimp only at hSw); go_simp) <;> with_reducible rfl)
  try simp only [sA, sB, sC, Act.put, sD, sE, sF]
  refine wpAnyH_take (i := 8) (v := ?vv8) rfl (by kernel_rfl) (by kernel_rfl) (by kernel_rfl) (fun _ _ _ h => h) (Or.inl ⟨by rfl, ?hy8⟩) (by assumption) ?rest8
  case hy8 => ((intro w hSw; (try dsimp only at hSw); go_simp) <;> with_reducible rfl)
  try simp only [sA, sB, sC, Act.put, sD, sE, sF]
  refine wpAnyH_ready (rs := [9]) (by kernel_rfl) (by simp) ?_
  refine AllReadyH.cons rfl (fun K hK => ?_) AllReadyH.nil
  go_simp
  refine hK.out _ _ ?hS9 (fun hHeld => ?_)
  case hS9 => go_keep
  clear hK K
  try simp only [sA, sB, sC, Act.put, sD, sE, sF]
  refine wpAnyH_ready (rs := [10]) (by kernel_rfl) (by simp) ?_
  refine AllReadyH.cons rfl (fun K hK => ?_) AllReadyH.nil
  go_simp
  refine hK.out _ _ ?hS10 (fun hHeld => ?_)
  case hS10 => go_keep
  clear hK K
  try simp only [sA, sB, sC, Act.put, sD, sE, sF]
  refine wpAnyH_done (by kernel_rfl) ?_ _
  go_wp2_with fail
  refine bodyPost_ret (v := .tuple #[.agg #[.int .u64 a2, .int .u64 b2], .agg #[.int .u64 o1, .int .u64 (bits .or .u64 o2 1)]]) (by simp [results, Tryz.results35, go_sem, d0, d1, d2, d3]) rfl ⟨?_, ?_⟩
  · rw [HRES.out.1, HRES.out.2]
  · repeat (first | with_reducible exact HF.out | with_reducible refine Below.drew ?_ | refine Below.setCell ?_ (by first | (show w.heap.size ≤ B + 1; omega) | (show w.heap.size ≤ B + 1 + 1; omega)) _)
end Go.Proofs.YtalbllijahiiiaaGreatDoor
end

section
namespace Go.Proofs.YtalbllijahiiiaaGreatDoor
open Go.RowKit Go.Mine Go.Mine.Desk

theorem far_near (n : Int) (h : near n) (w : World) : Calls Tryz.prog 99 #[.int .i64 n] w fun e w' => e = .returned (.bool false) ∧ w' = w := by
  unfold near at h
  have d1 : decide (n < -1073741824) = false := decide_eq_false (by omega)
  have d2 : decide (1073741824 < n) = false := decide_eq_false (by omega)
  go_enter Tryz.func99, Tryz.ntmps99
  go_wp2_with fail
  go_ret
  exact ⟨rfl, rfl⟩
set_option maxRecDepth 100000 in
set_option maxHeartbeats 2000000 in
theorem PartFault_int (a b : Int) (ha : near a) (hb : near b) (w : World) : Calls Tryz.prog 68 #[intG a b] w fun e w' => e = .returned (.int .i64 (faultG (.int a b))) ∧ Below w.heap.size w w' := by
  have HA := Lib.hid (fun w => far_near a ha w)
  have HB := Lib.hid (fun w => far_near b hb w)
  have HW := Lib.hid ((Below.refl w.heap.size w).alloc (Nat.le_refl _) (.cells #[.int .i64 2, .int .i64 a, .int .i64 b, .slice none 0 0] 28))
  unfold near at ha hb
  have hw1 : IntKind.i64.wrap (b - a) = b - a := IntWalk.i64_in _ (by omega)
  by_cases h1 : b < a
  · have d1 : decide (b < a) = true := decide_eq_true h1
    have HF := Lib.hid (show faultG (.int a b) = 1 by show faultI a b = 1; unfold faultI; rw [if_neg (by omega)])
    go_enter Tryz.func68, Tryz.ntmps68
    go_wp2_with fail
    refine (HA.out _).mono ?_
    rintro e w1 ⟨rfl, rfl⟩
    go_wp2_with fail
    refine (HB.out _).mono ?_
    rintro e w2 ⟨rfl, rfl⟩
    go_wp2_with fail
    go_ret
    exact ⟨by rw [HF.out]; rfl, HW.out⟩
  · have d1 : decide (b < a) = false := decide_eq_false h1
    by_cases h2 : 1000 < b - a
    · have d2 : decide (1000 < b - a) = true := decide_eq_true h2
      have HF := Lib.hid (show faultG (.int a b) = 1 by show faultI a b = 1; unfold faultI; rw [if_neg (by omega)])
      go_enter Tryz.func68, Tryz.ntmps68
      go_wp2_with fail
      refine (HA.out _).mono ?_
      rintro e w1 ⟨rfl, rfl⟩
      go_wp2_with fail
      refine (HB.out _).mono ?_
      rintro e w2 ⟨rfl, rfl⟩
      go_wp2_with fail
      go_ret
      exact ⟨by rw [HF.out]; rfl, HW.out⟩
    · have d2 : decide (1000 < b - a) = false := decide_eq_false h2
      have HF := Lib.hid (show faultG (.int a b) = 0 by show faultI a b = 0; unfold faultI; rw [if_pos (by omega)])
      go_enter Tryz.func68, Tryz.ntmps68
      go_wp2_with fail
      refine (HA.out _).mono ?_
      rintro e w1 ⟨rfl, rfl⟩
      go_wp2_with fail
      refine (HB.out _).mono ?_
      rintro e w2 ⟨rfl, rfl⟩
      go_wp2_with fail
      refine wp_loop_rounds 1 ?_
      rw [rounds_succ]
      go_wp2_with fail
      go_ret
      exact ⟨by rw [HF.out]; rfl, HW.out⟩
set_option maxRecDepth 100000 in
set_option maxHeartbeats 2000000 in
theorem PartFault_many (n a b : Int) (gb : Nat) (hn : near n) (ha : near a) (hb : near b) (w : World) (hs : SubAt w gb a b) : Calls Tryz.prog 68 #[manyG n gb] w fun e w' => e = .returned (.int .i64 (faultG (.many n a b))) ∧ Below w.heap.size w w' := by
  have HW := Lib.hid ((Below.refl w.heap.size w).alloc (Nat.le_refl _) (.cells #[.int .i64 4, .int .i64 n, .int .i64 0, .slice (some ⟨gb, 0, none⟩) 1 1] 28))
  have hs1 := hs.on HW.out
  have c0 := hs1.c0
  have c1 := hs1.c1
  have c2 := hs1.c2
  have c3 := hs1.c3
  have HP := Lib.hid (PartFault_int a b ha hb (w.alloc (.cells #[.int .i64 4, .int .i64 n, .int .i64 0, .slice (some ⟨gb, 0, none⟩) 1 1] 28)))
  clear hs hs1
  unfold near at hn
  by_cases h1 : n < 0
  · have d1 : decide (n < 0) = true := decide_eq_true h1
    have HF := Lib.hid (show faultG (.many n a b) = 1 by show (if 0 ≤ n ∧ n ≤ 5 then faultI a b else 1) = 1; rw [if_neg (by omega)])
    go_enter Tryz.func68, Tryz.ntmps68
    go_wp2_with fail
    go_ret
    exact ⟨by rw [HF.out]; rfl, HW.out⟩
  · have d1 : decide (n < 0) = false := decide_eq_false h1
    by_cases h2 : 5 < n
    · have d2 : decide (5 < n) = true := decide_eq_true h2
      have HF := Lib.hid (show faultG (.many n a b) = 1 by show (if 0 ≤ n ∧ n ≤ 5 then faultI a b else 1) = 1; rw [if_neg (by omega)])
      go_enter Tryz.func68, Tryz.ntmps68
      go_wp2_with fail
      go_ret
      exact ⟨by rw [HF.out]; rfl, HW.out⟩
    · have d2 : decide (5 < n) = false := decide_eq_false h2
      have HF := Lib.hid (show faultG (.many n a b) = faultG (.int a b) by show (if 0 ≤ n ∧ n ≤ 5 then faultI a b else 1) = faultI a b; rw [if_pos (by omega)])
      have HC := Lib.hid (faultG_cases (.int a b))
      obtain ⟨fg, hfg⟩ : ∃ fg, fg = faultG (.int a b) := ⟨_, rfl⟩
      rw [← hfg] at HP HF HC
      clear hfg
      go_enter Tryz.func68, Tryz.ntmps68
      go_wp2_with fail
      refine wp_loop_rounds 2 ?_
      rw [rounds_succ]
      go_wp2_with fail
      refine HP.out.mono ?_
      clear HP
      rintro e w1 ⟨rfl, hb1⟩
      have HB1 := Lib.hid (HW.out.trans (hb1.mono HW.out.size))
      have kb : Blk w1 w.heap.size 28 #[.int .i64 4, .int .i64 n, .int .i64 0, .slice (some ⟨gb, 0, none⟩) 1 1] := (Blk.new _ _ _).below hb1
      have e3 : w1.cell? ⟨w.heap.size, 3, none⟩ = some (.slice (some ⟨gb, 0, none⟩) 1 1) := kb.cell 3
      clear hb1 kb
      rcases HC.out with h | h
      · subst h
        go_wp2_with fail
        rw [rounds_succ]
        go_wp2_with fail
        go_ret
        exact ⟨by rw [HF.out]; rfl, HB1.out⟩
      · subst h
        go_wp2_with fail
        go_ret
        exact ⟨by rw [HF.out]; rfl, HB1.out⟩
end Go.Proofs.YtalbllijahiiiaaGreatDoor
end

section
namespace Go.Proofs.YtalbllijahiiiaaGreatDoor
open Go.RowKit Go.Mine Go.Mine.Desk

set_option maxRecDepth 100000 in
set_option maxHeartbeats 2000000 in
theorem Large_int (a b d : Int) (hd : 0 ≤ d ∧ d < 6) (w : World) : Calls Tryz.prog 67 #[intG a b, .int .i64 d] w fun e w' => e = .returned (.tuple #[.int .i64 1, .bool false]) ∧ Below w.heap.size w w' := by
  have HW := Lib.hid ((Below.refl w.heap.size w).alloc (Nat.le_refl _) (.cells #[.int .i64 2, .int .i64 a, .int .i64 b, .slice none 0 0] 28))
  have d1 : decide (6 ≤ d) = false := decide_eq_false (by omega)
  clear hd
  go_enter Tryz.func67, Tryz.ntmps67
  go_wp2_with fail
  refine wp_loop_rounds 1 ?_
  rw [rounds_succ]
  go_wp2_with fail
  go_ret2
  exact ⟨rfl, HW.out⟩
set_option maxRecDepth 100000 in
set_option maxHeartbeats 2000000 in
theorem Large_many (n a b : Int) (gb : Nat) (w : World) (hs : SubAt w gb a b) : Calls Tryz.prog 67 #[manyG n gb, .int .i64 0] w fun e w' => e = .returned (.tuple #[.int .i64 2, .bool false]) ∧ Below w.heap.size w w' := by
  have HW := Lib.hid ((Below.refl w.heap.size w).alloc (Nat.le_refl _) (.cells #[.int .i64 4, .int .i64 n, .int .i64 0, .slice (some ⟨gb, 0, none⟩) 1 1] 28))
  have hs1 := hs.on HW.out
  have c0 := hs1.c0
  have c1 := hs1.c1
  have c2 := hs1.c2
  have c3 := hs1.c3
  have HP := Lib.hid (Large_int a b 1 (by omega) (w.alloc (.cells #[.int .i64 4, .int .i64 n, .int .i64 0, .slice (some ⟨gb, 0, none⟩) 1 1] 28)))
  clear hs hs1
  go_enter Tryz.func67, Tryz.ntmps67
  go_wp2_with fail
  refine wp_loop_rounds 2 ?_
  rw [rounds_succ]
  go_wp2_with fail
  refine HP.out.mono ?_
  clear HP
  rintro e w1 ⟨rfl, hb1⟩
  have HB1 := Lib.hid (HW.out.trans (hb1.mono HW.out.size))
  have kb : Blk w1 w.heap.size 28 #[.int .i64 4, .int .i64 n, .int .i64 0, .slice (some ⟨gb, 0, none⟩) 1 1] := (Blk.new _ _ _).below hb1
  have e3 : w1.cell? ⟨w.heap.size, 3, none⟩ = some (.slice (some ⟨gb, 0, none⟩) 1 1) := kb.cell 3
  clear hb1 kb
  go_wp2_with fail
  rw [rounds_succ]
  go_wp2_with fail
  go_ret2
  exact ⟨rfl, HB1.out⟩
theorem GenFault_any (g : G) (v : Value) (hn : g.near) (w : World) (hv : GenAt w v g) : Calls Tryz.prog 34 #[v] w fun e w' => e = .returned (.int .i64 (faultG g)) ∧ Below w.heap.size w w' := by
  cases g with
  | int a b =>
    have hv2 : v = intG a b := hv
    subst hv2
    obtain ⟨w0, hw0⟩ : ∃ w0, w0 = w.alloc (.cells #[.int .i64 2, .int .i64 a, .int .i64 b, .slice none 0 0] 28) := ⟨_, rfl⟩
    have hb0 : Below w.heap.size w w0 := by rw [hw0]; exact (Below.refl _ _).alloc (Nat.le_refl _) _
    obtain ⟨B, hB⟩ : ∃ B, w.heap.size = B := ⟨_, rfl⟩
    have kb : Blk w0 B 28 #[.int .i64 2, .int .i64 a, .int .i64 b, .slice none 0 0] := by rw [hw0, ← hB]; exact Blk.new _ _ _
    have HL := Lib.hid (Large_int a b 0 (by omega) w0)
    have HP := Lib.hid (fun w => PartFault_int a b hn.1 hn.2 w)
    have HK := Lib.hid (And.intro hb0 kb)
    have HBB := Lib.hid hB
    have HW := Lib.hid hw0
    rw [hw0] at HL
    clear hw0 hb0 kb hB hn hv
    go_enter Tryz.func34, Tryz.ntmps34
    go_wp2_with fail
    refine HL.out.mono ?_
    clear HL
    rintro e w1 ⟨rfl, hb1⟩
    rw [← HW.out] at hb1
    have kb1 := HK.out.2.below hb1
    have e0 : w1.cell? ⟨B, 0, none⟩ = some (.int .i64 2) := kb1.cell 0
    have e1 : w1.cell? ⟨B, 1, none⟩ = some (.int .i64 a) := kb1.cell 1
    have e2 : w1.cell? ⟨B, 2, none⟩ = some (.int .i64 b) := kb1.cell 2
    have e3 : w1.cell? ⟨B, 3, none⟩ = some (.slice none 0 0) := kb1.cell 3
    have HB1 := Lib.hid (HK.out.1.trans (hb1.mono HK.out.1.size))
    rw [HBB.out]
    clear hb1 kb1
    go_wp2_with fail
    refine (HP.out _).mono ?_
    rintro e w2 ⟨rfl, hb2⟩
    have HB2 := Lib.hid (HB1.out.trans (hb2.mono HB1.out.size))
    clear hb2
    go_wp2_with fail
    go_ret
    exact ⟨rfl, HB2.out⟩
  | many n a b =>
    obtain ⟨gb, hv2, hs⟩ := hv
    subst hv2
    obtain ⟨w0, hw0⟩ : ∃ w0, w0 = w.alloc (.cells #[.int .i64 4, .int .i64 n, .int .i64 0, .slice (some ⟨gb, 0, none⟩) 1 1] 28) := ⟨_, rfl⟩
    have hb0 : Below w.heap.size w w0 := by rw [hw0]; exact (Below.refl _ _).alloc (Nat.le_refl _) _
    obtain ⟨B, hB⟩ : ∃ B, w.heap.size = B := ⟨_, rfl⟩
    have kb : Blk w0 B 28 #[.int .i64 4, .int .i64 n, .int .i64 0, .slice (some ⟨gb, 0, none⟩) 1 1] := by rw [hw0, ← hB]; exact Blk.new _ _ _
    have HL := Lib.hid (Large_many n a b gb w0 (hs.on hb0))
    have HP := Lib.hid (fun w hs => PartFault_many n a b gb hn.1 hn.2.1 hn.2.2 w hs)
    have HK := Lib.hid (And.intro hb0 (And.intro kb (hs.on hb0)))
    have HBB := Lib.hid hB
    have HW := Lib.hid hw0
    rw [hw0] at HL
    clear hw0 hb0 kb hB hn hs
    go_enter Tryz.func34, Tryz.ntmps34
    go_wp2_with fail
    refine HL.out.mono ?_
    clear HL
    rintro e w1 ⟨rfl, hb1⟩
    rw [← HW.out] at hb1
    have kb1 := HK.out.2.1.below hb1
    have e0 : w1.cell? ⟨B, 0, none⟩ = some (.int .i64 4) := kb1.cell 0
    have e1 : w1.cell? ⟨B, 1, none⟩ = some (.int .i64 n) := kb1.cell 1
    have e2 : w1.cell? ⟨B, 2, none⟩ = some (.int .i64 0) := kb1.cell 2
    have e3 : w1.cell? ⟨B, 3, none⟩ = some (.slice (some ⟨gb, 0, none⟩) 1 1) := kb1.cell 3
    have HB1 := Lib.hid (And.intro (HK.out.1.trans (hb1.mono HK.out.1.size)) (HK.out.2.2.on hb1))
    rw [HBB.out]
    clear hb1 kb1
    go_wp2_with fail
    refine (HP.out _ HB1.out.2).mono ?_
    rintro e w2 ⟨rfl, hb2⟩
    have HB2 := Lib.hid (HB1.out.1.trans (hb2.mono HB1.out.1.size))
    clear hb2
    go_wp2_with fail
    go_ret
    exact ⟨rfl, HB2.out⟩
end Go.Proofs.YtalbllijahiiiaaGreatDoor
end

section
namespace Go.Proofs.YtalbllijahiiiaaGreatDoor
open Go.RowKit Go.Mine Go.Mine.Desk

def refC (c : Int) : Nat → Int × Int
  | 0 => (0, 1)
  | i + 1 => ((cntN c i).1, capped ((cntN c i).2 * c))
theorem refC_next (c : Int) (i : Nat) : refC c (i + 1) = (min 1048577 ((refC c i).1 + (refC c i).2), min 1048577 ((refC c i).2 * c)) := by
  cases i with
  | zero =>
    simp only [refC, cntN]
    unfold capped
    rw [Int.min_comm 1048577 (1 * c)]
    congr 1
  | succ i =>
    simp only [refC]
    rw [cntN]
    unfold capped
    simp only [Int.min_comm 1048577]
theorem refC_b {c : Int} (h0 : 0 ≤ c) : ∀ i, 0 ≤ (refC c i).1 ∧ (refC c i).1 ≤ 1048577 ∧ 0 ≤ (refC c i).2 ∧ (refC c i).2 ≤ 1048577
  | 0 => by simp [refC]
  | i + 1 => by
    obtain ⟨h1, h2, h3, h4⟩ := cntN_b h0 i
    have h5 := Int.mul_nonneg h3 h0
    simp only [refC]
    unfold capped
    omega
set_option maxRecDepth 100000 in
set_option maxHeartbeats 2000000 in
theorem CountOf_int (a b : Int) (hr : (G.int a b).right) (w : World) : Calls Tryz.prog 13 #[intG a b] w fun e w' => e = .returned (.int .i64 (b - a + 1)) ∧ Below w.heap.size w w' := by
  have HW := Lib.hid ((Below.refl w.heap.size w).alloc (Nat.le_refl _) (.cells #[.int .i64 2, .int .i64 a, .int .i64 b, .slice none 0 0] 28))
  obtain ⟨h1, h2, h3, h4⟩ := hr
  unfold near at h1 h2
  have hw1 : IntKind.i64.wrap (b - a) = b - a := IntWalk.i64_in _ (by omega)
  have hw2 : IntKind.i64.wrap (b - a + 1) = b - a + 1 := IntWalk.i64_in _ (by omega)
  go_enter Tryz.func13, Tryz.ntmps13
  go_wp2_with fail
  go_ret
  exact ⟨rfl, HW.out⟩
set_option maxRecDepth 100000 in
set_option maxHeartbeats 4000000 in
theorem CountOf_many (n a b : Int) (gb : Nat) (hr : (G.many n a b).right) (w : World) (hs : SubAt w gb a b) : Calls Tryz.prog 13 #[manyG n gb] w fun e w' => e = .returned (.int .i64 (cnt (.many n a b))) ∧ Below w.heap.size w w' := by
  obtain ⟨w0, hw0⟩ : ∃ w0, w0 = w.alloc (.cells #[.int .i64 4, .int .i64 n, .int .i64 0, .slice (some ⟨gb, 0, none⟩) 1 1] 28) := ⟨_, rfl⟩
  have hb0 : Below w.heap.size w w0 := by rw [hw0]; exact (Below.refl _ _).alloc (Nat.le_refl _) _
  obtain ⟨B, hB⟩ : ∃ B, w.heap.size = B := ⟨_, rfl⟩
  have kb : Blk w0 B 28 #[.int .i64 4, .int .i64 n, .int .i64 0, .slice (some ⟨gb, 0, none⟩) 1 1] := by rw [hw0, ← hB]; exact Blk.new _ _ _
  have hs1 := hs.on hb0
  have c0 := hs1.c0
  have c1 := hs1.c1
  have c2 := hs1.c2
  have c3 := hs1.c3
  obtain ⟨r1, r2, r3, r4, r5, r6⟩ := hr
  have HC := Lib.hid (CountOf_int a b ⟨r3, r4, r5, r6⟩ w0)
  obtain ⟨c, hc⟩ : ∃ c, c = b - a + 1 := ⟨_, rfl⟩
  rw [← hc] at HC
  have hcb0 : 0 ≤ c := by omega
  have hcb1 : c ≤ 1001 := by omega
  have HN := Lib.hid (show cnt (.many n a b) = (refC c (n.toNat + 1)).1 by rw [hc]; rfl)
  have HK := Lib.hid (And.intro hb0 kb)
  have HBB := Lib.hid hB
  have HW := Lib.hid hw0
  rw [hw0] at HC c0 c1 c2 c3
  clear hw0 hb0 kb hB hs hs1 hc r3 r4 r5 r6
  go_enter Tryz.func13, Tryz.ntmps13
  go_wp2_with fail
  refine HC.out.mono ?_
  clear HC
  rintro e w1 ⟨rfl, hb1⟩
  rw [← HW.out] at hb1
  have kb1 := HK.out.2.below hb1
  have e1 : w1.cell? ⟨B, 1, none⟩ = some (.int .i64 n) := kb1.cell 1
  have HB1 := Lib.hid (HK.out.1.trans (hb1.mono HK.out.1.size))
  rw [HBB.out]
  clear hb1 kb1 c0 c1 c2 c3
  go_wp2_with fail
  go_loopw [9, 10, 11] (fun nv pv iv wr => ∃ i : Nat, nv = .int .i64 (refC c i).1 ∧ pv = .int .i64 (refC c i).2 ∧ iv = .int .i64 (i : Int) ∧ i ≤ n.toNat + 1 ∧ wr = w1) (fun _ _ iv _ => n.toNat + 1 - (intOf iv).toNat)
  case atStart => exact ⟨0, rfl, rfl, rfl, by omega, by first | trivial | rfl⟩
  case round =>
    obtain ⟨i, rfl, rfl, rfl, hi, hwr⟩ := hrel
    have e1' : wr.cell? ⟨B, 1, none⟩ = some (.int .i64 n) := by rw [hwr]; exact e1
    have HWR := Lib.hid hwr
    clear hwr
    obtain ⟨b1, b2, b3, b4⟩ := refC_b hcb0 i
    have HX := Lib.hid (refC_next c i)
    rcases Nat.lt_or_ge i (n.toNat + 1) with hlt | hge
    · have d1 : decide ((i : Int) ≤ n) = true := decide_eq_true (by omega)
      obtain ⟨x, hx⟩ : ∃ x, x = (refC c i).1 := ⟨_, rfl⟩
      obtain ⟨y, hy⟩ : ∃ y, y = (refC c i).2 := ⟨_, rfl⟩
      rw [← hx, ← hy] at HX ⊢
      rw [← hx] at b1 b2
      rw [← hy] at b3 b4
      have hyc0 := Int.mul_nonneg b3 hcb0
      have hyc1 : y * c ≤ 1049625577 := by
        have := Int.mul_le_mul b4 hcb1 hcb0 (by omega : (0 : Int) ≤ 1048577)
        omega
      have hw1 : IntKind.i64.wrap (x + y) = x + y := IntWalk.i64_in _ (by omega)
      have hw2 : IntKind.i64.wrap (y * c) = y * c := IntWalk.i64_in _ (by omega)
      have hw3 : IntKind.i64.wrap ((i : Int) + 1) = ((i + 1 : Nat) : Int) := by rw [IntWalk.i64_in _ (by omega)]; omega
      clear hx hy
      go_wp2_with fail
      go_roundw
      case rel => exact ⟨i + 1, by rw [HX.out], by rw [HX.out], by go_num, by omega, HWR.out⟩
      case measure => simp [intOf]; omega
    · have d1 : decide ((i : Int) ≤ n) = false := decide_eq_false (by omega)
      have hin : i = n.toNat + 1 := by omega
      subst hin
      go_wp2_with fail
      go_ret
      exact ⟨by rw [HN.out]; rfl, by rw [HWR.out]; exact HB1.out⟩
theorem CountOf_any (g : G) (v : Value) (hr : g.right) (w : World) (hv : GenAt w v g) : Calls Tryz.prog 13 #[v] w fun e w' => e = .returned (.int .i64 (cnt g)) ∧ Below w.heap.size w w' := by
  cases g with
  | int a b =>
    have hv2 : v = intG a b := hv
    subst hv2
    exact CountOf_int a b hr w
  | many n a b =>
    obtain ⟨gb, hv2, hs⟩ := hv
    subst hv2
    exact CountOf_many n a b gb hr w hs
end Go.Proofs.YtalbllijahiiiaaGreatDoor
end
