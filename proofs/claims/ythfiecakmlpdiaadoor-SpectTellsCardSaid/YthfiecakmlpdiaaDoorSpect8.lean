/- assayerref2.SpectOf, BlameOf. No conditions but what the reading tells. -/
import Derived.Test.YthfiecakmlpdiaaDoorSpect7
import Derived.Test.YthfiecakmlpdiaaDoorSFault
namespace Go.Proofs.YthfiecakmlpdiaaDoor
open Go.RowKit Go.Mine Go.Mine.Suite Go.Mine.Spec Go.Mine.Stab

set_option maxHeartbeats 1000000 in
set_option maxRecDepth 100000 in
theorem spectOf_any (ts : List Nat) (fs : List Bool) (x : Nat) (ao fo : Option Addr) (c d : Nat) (W : World) (hx : IntsAt .u32 W ao (cast ts)) (h32 : ∀ t ∈ ts, t < 4294967296) (hl : ts.length ≤ 12) (hf : BoolsAt W fo fs) (hfl : ts.length = fs.length) (hx32 : x < 32) :
    Calls Tryd.prog 8 #[.slice ao ts.length c, .slice fo fs.length d, .int .i64 (x : Int)] W fun e w' => e = .returned (.agg #[.int .i64 ((cK ts fs x 0 ts.length : Nat) : Int), .int .i64 ((cK ts fs x 1 ts.length : Nat) : Int), .int .i64 ((cK ts fs x 2 ts.length : Nat) : Int), .int .i64 ((cK ts fs x 3 ts.length : Nat) : Int)]) ∧ Below W.heap.size W w' := by
  have HX := Lib.hid (show ∀ w, Below W.heap.size W w → IntsAt .u32 w ao (cast ts) ∧ BoolsAt w fo fs from fun w hb => ⟨hx.below (Nat.le_refl _) hb, hf.below (Nat.le_refl _) hb⟩)
  have H32 := Lib.hid h32
  have HFL := Lib.hid hfl
  obtain ⟨w1, hw1⟩ : ∃ w1, w1 = W.alloc (.cells #[.int .i64 0, .int .i64 0, .int .i64 0, .int .i64 0] 33) := ⟨_, rfl⟩
  have hb1 : Below W.heap.size W w1 := by rw [hw1]; exact (Below.refl _ _).alloc (Nat.le_refl _) _
  have hs1 : w1.heap.size = W.heap.size + 1 := by rw [hw1]; simp
  have hn1 : w1.heap[W.heap.size]? = some (.cells #[.int .i64 0, .int .i64 0, .int .i64 0, .int .i64 0] 33 (0, 0)) := by rw [hw1]; exact heap_alloc_new _ _
  have HN1 := Lib.hid hn1
  have HB1 := Lib.hid hb1
  have HS1 := Lib.hid hs1
  have HL0 := Lib.hid (show (w1.alloc (.cells #[.int .i64 0, .int .i64 0, .int .i64 0, .int .i64 0] 33)).ownsRow (W.heap.size + 1) 33 1 (.slice (some ⟨W.heap.size + 1, 0, none⟩) 4 4) 4 ((row4 ts fs 0 x).map (Value.int .i64)) from by rw [← hs1]; exact owns_laid (cs := #[.int .i64 0, .int .i64 0, .int .i64 0, .int .i64 0]) (heap_alloc_at _ _ rfl) (Nat.le_refl _) rfl (by unfold maxLen; omega))
  clear hn1 hb1 hs1
  clear hx hf h32 hfl
  go_enter Tryd.func8, Tryd.ntmps8
  go_wp2_with fail
  rw [← hw1]
  clear hw1
  go_loopw [8] (fun jv wr => ∃ j : Nat, jv = .int .i64 j ∧ j ≤ ts.length ∧ RowKit.Hid (wr.ownsRow (W.heap.size + 1) 33 1 (.slice (some ⟨W.heap.size + 1, 0, none⟩) 4 4) 4 ((row4 ts fs j x).map (Value.int .i64))) ∧ RowKit.Hid (Below (W.heap.size + 1) w1 wr)) (fun jv _ => ts.length - (intOf jv).toNat)
  case atStart => exact ⟨0, rfl, by omega, HL0, Lib.hid ((Below.refl _ _).alloc (by rw [HS1.out]; exact Nat.le_refl _) _)⟩
  clear HL0
  case round =>
    obtain ⟨j, rfl, hj, hc, hb⟩ := hrel
    by_cases hjl : j < ts.length
    · obtain ⟨b, o, hae, hct⟩ := (HX.out wr (HB1.out.trans (hb.out.mono (by omega)))).1 j (by rw [cast_len]; exact hjl)
      subst hae
      obtain ⟨b2, o2, hfe, hcf⟩ := (HX.out wr (HB1.out.trans (hb.out.mono (by omega)))).2 j (by rw [← HFL.out]; exact hjl)
      subst hfe
      rw [cast_get] at hct
      have hjf : j < fs.length := by rw [← HFL.out]; exact hjl
      obtain ⟨t, ht⟩ : ∃ t, t = ts.getD j 0 := ⟨_, rfl⟩
      rw [← ht] at hct
      have ht32 : t < 4294967296 := by rw [ht]; exact H32.out _ (by simp [hjl])
      obtain ⟨f, hff⟩ : ∃ f, f = fs.getD j false := ⟨_, rfl⟩
      rw [← hff] at hcf
      have HCL := Lib.hid (show cls ts fs x j = (if t.testBit x then 0 else 1) + (if f then 0 else 2) by unfold cls; rw [← ht, ← hff])
      have hs1 := so_eq t x
      have hs2 := so_emod t x
      obtain ⟨tb, htb⟩ : ∃ tb, t.testBit x = tb := ⟨_, rfl⟩
      rw [htb] at hs1 hs2 HCL
      have HNX := Lib.hid (row4_next ts fs x j)
      have HLE := Lib.hid (cK_le ts fs x (cls ts fs x j) j)
      obtain ⟨k, hk⟩ : ∃ k, k = cls ts fs x j := ⟨_, rfl⟩
      rw [← hk] at HNX HCL HLE
      have hk4 : k < 4 := by rw [hk]; exact cls_lt _ _ _ _
      obtain ⟨y, hy⟩ : ∃ y, y = cK ts fs x k j := ⟨_, rfl⟩
      rw [← hy] at HNX HLE
      have hyj : y ≤ j := HLE.out
      have hcell : wr.cell? ⟨W.heap.size + 1, k, none⟩ = some (.int .i64 (y : Int)) := by
        rw [hc.out.cellAt k (by omega), hy]
        have h4 : k = 0 ∨ k = 1 ∨ k = 2 ∨ k = 3 := by omega
        rcases h4 with rfl | rfl | rfl | rfl <;> rfl
      have hfz := hc.out.frozenAt k
      have HST := Lib.hid (hc.out.stored k (.int .i64 ((y : Int) + 1))).1
      rw [← HNX.out] at HST
      have HBS := Lib.hid (hb.out.setCell (p := ⟨W.heap.size + 1, k, none⟩) (Nat.le_refl _) (.int .i64 ((y : Int) + 1)))
      clear ht hff hb hk hy htb HNX HLE hc ht32
      cases tb <;> cases f
      all_goals
        have hk2 := HCL.out
        simp at hk2
        subst hk2
        clear HCL
        go_wp2_with fail
        go_roundw
      all_goals first
        | exact ⟨j + 1, by go_num, by omega, HST, HBS⟩
        | (simp [intOf]; omega)
    · obtain rfl : j = ts.length := by omega
      obtain ⟨a0, h0⟩ : ∃ a0 : Int, a0 = (cK ts fs x 0 ts.length : Nat) := ⟨_, rfl⟩
      obtain ⟨a1, h1⟩ : ∃ a1 : Int, a1 = (cK ts fs x 1 ts.length : Nat) := ⟨_, rfl⟩
      obtain ⟨a2, h2⟩ : ∃ a2 : Int, a2 = (cK ts fs x 2 ts.length : Nat) := ⟨_, rfl⟩
      obtain ⟨a3, h3⟩ : ∃ a3 : Int, a3 = (cK ts fs x 3 ts.length : Nat) := ⟨_, rfl⟩
      have hr4 : row4 ts fs ts.length x = [a0, a1, a2, a3] := by rw [h0, h1, h2, h3]; rfl
      have HE := Lib.hid (And.intro h0.symm (And.intro h1.symm (And.intro h2.symm h3.symm)))
      have hco := hc.out
      rw [hr4] at hco
      have hc0 : wr.cell? ⟨W.heap.size + 1, 0, none⟩ = some (.int .i64 a0) := by rw [hco.cellAt 0 (by omega)]; rfl
      have hc1 : wr.cell? ⟨W.heap.size + 1, 1, none⟩ = some (.int .i64 a1) := by rw [hco.cellAt 1 (by omega)]; rfl
      have hc2 : wr.cell? ⟨W.heap.size + 1, 2, none⟩ = some (.int .i64 a2) := by rw [hco.cellAt 2 (by omega)]; rfl
      have hc3 : wr.cell? ⟨W.heap.size + 1, 3, none⟩ = some (.int .i64 a3) := by rw [hco.cellAt 3 (by omega)]; rfl
      have HB := Lib.hid hb.out
      have hrb := (HB.out.block W.heap.size (by omega)).trans HN1.out
      have r0 : wr.cell? ⟨W.heap.size, 0, none⟩ = some (.int .i64 0) := by rw [cell_of_row _ _ 0 _ _ _ hrb]; rfl
      have r1 : wr.cell? ⟨W.heap.size, 1, none⟩ = some (.int .i64 0) := by rw [cell_of_row _ _ 1 _ _ _ hrb]; rfl
      have r2 : wr.cell? ⟨W.heap.size, 2, none⟩ = some (.int .i64 0) := by rw [cell_of_row _ _ 2 _ _ _ hrb]; rfl
      have r3 : wr.cell? ⟨W.heap.size, 3, none⟩ = some (.int .i64 0) := by rw [cell_of_row _ _ 3 _ _ _ hrb]; rfl
      have f0 : ∀ k, wr.frozen? ⟨W.heap.size, k, none⟩ = false := fun k => frozen_of_row _ _ k _ _ hrb
      clear hrb
      clear h0 h1 h2 h3 hr4 hco hc hb
      go_wp2_with fail
      refine bodyPost_ret (v := .agg #[.int .i64 a0, .int .i64 a1, .int .i64 a2, .int .i64 a3]) (by simp [results, Tryd.results8, go_sem, r0, r1, r2, r3]) rfl ⟨by rw [HE.out.1, HE.out.2.1, HE.out.2.2.1, HE.out.2.2.2], ?_⟩
      exact ((((HB1.out.trans (HB.out.mono (by omega))).setCell (by simp) _).setCell (by simp) _).setCell (by simp) _).setCell (by simp) _

set_option maxHeartbeats 1000000 in
set_option maxRecDepth 100000 in
theorem blameOf_any (a b c d : Nat) (ha : a ≤ 12) (hb : b ≤ 12) (hc : c ≤ 12) (hd : d ≤ 12) (w : World) :
    Calls Tryd.prog 9 #[.agg #[.int .i64 a, .int .i64 b, .int .i64 c, .int .i64 d]] w fun e w' => e = .returned (.tuple #[.int .i64 (ra4 a b c d : Nat), .int .i64 (rb4 a b c d : Nat)]) ∧ Below w.heap.size w w' := by
  by_cases h1 : a = 0
  · subst h1
    have e1 : ra4 0 b c d = 0 := rfl
    have e2 : rb4 0 b c d = 1 := rfl
    rw [e1, e2]
    clear e1 e2
    go_enter Tryd.func9, Tryd.ntmps9
    go_wp2_with fail
    go_ret2
    exact ⟨rfl, (Below.refl _ _).alloc (Nat.le_refl _) _⟩
  · have d1 : ((a : Int) == 0) = false := by rw [beq_eq_false_iff_ne]; omega
    by_cases h2 : c + d = 0
    · obtain rfl : c = 0 := by omega
      obtain rfl : d = 0 := by omega
      have e1 : ra4 a b 0 0 = 1 := by unfold ra4; rw [if_neg h1]; rfl
      have e2 : rb4 a b 0 0 = 1 := by unfold rb4; rw [if_neg h1]; rfl
      rw [e1, e2]
      clear e1 e2 h1 h2
      go_enter Tryd.func9, Tryd.ntmps9
      go_wp2_with fail
      go_ret2
      exact ⟨rfl, (Below.refl _ _).alloc (Nat.le_refl _) _⟩
    · have d2 : ((c : Int) + (d : Int) == 0) = false := by rw [beq_eq_false_iff_ne]; omega
      have m1 : c * (a + b) ≤ 12 * 24 := Nat.mul_le_mul hc (by omega)
      have m2 : a * (c + d) ≤ 12 * 24 := Nat.mul_le_mul ha (by omega)
      obtain ⟨P, hP⟩ : ∃ P : Int, P = (a : Int) * ((c : Int) + (d : Int)) := ⟨_, rfl⟩
      obtain ⟨Q, hQ⟩ : ∃ Q : Int, Q = (c : Int) * ((a : Int) + (b : Int)) := ⟨_, rfl⟩
      have hP0 : 0 ≤ P ∧ P ≤ 288 := by rw [hP]; have : ((a * (c + d) : Nat) : Int) = (a : Int) * ((c : Int) + (d : Int)) := by simp
                                       omega
      have hQ0 : 0 ≤ Q ∧ Q ≤ 288 := by rw [hQ]; have : ((c * (a + b) : Nat) : Int) = (c : Int) * ((a : Int) + (b : Int)) := by simp
                                       omega
      have e1 : ((ra4 a b c d : Nat) : Int) = P := by unfold ra4; rw [if_neg h1, if_neg h2, hP]; simp
      have e2 : ((rb4 a b c d : Nat) : Int) = P + Q := by unfold rb4; rw [if_neg h1, if_neg h2, hP, hQ]; simp
      rw [e1, e2]
      obtain ⟨hp0, hp1⟩ := hP0
      obtain ⟨hq0, hq1⟩ := hQ0
      have hP' := hP.symm
      have hQ' := hQ.symm
      have hw1 : wrap64 P = P := IntWalk.wrap64_in _ (by omega)
      have hw2 : wrap64 Q = Q := IntWalk.wrap64_in _ (by omega)
      have hw3 : wrap64 (P + Q) = P + Q := IntWalk.wrap64_in _ (by omega)
      clear hP hQ e1 e2 m1 m2 h1 h2
      go_enter Tryd.func9, Tryd.ntmps9
      go_wp2_with fail
      go_quiet (fail)
      go_wp2_with fail
      go_ret2
      exact ⟨rfl, below_drewN ((Below.refl _ _).alloc (Nat.le_refl _) _) _⟩
end Go.Proofs.YthfiecakmlpdiaaDoor
