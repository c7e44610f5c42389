/- SpectFirst's walk: who is in all that fail, and in no other. No conditions but what the reading tells. -/
import Derived.Test.YthfiecakmlpdiaaSpect5
namespace Go.Proofs.Ythfiecakmlpdiaa
open Go.RowKit Go.Mine Go.Mine.Suite Go.Mine.Spec Go.Mine.Stab

/-- Where a number stands in the order. -/
theorem vals_onto {d : Nat → Nat} {n : Nat} (hv : Vals d n) (x : Nat) (hx : x < n) : ∃ p, p < n ∧ d p = x := by
  have hnd : ((List.range n).map d).Nodup := by
    unfold List.Nodup
    rw [List.pairwise_map]
    refine List.Pairwise.imp ?_ (List.pairwise_lt_range (n := n))
    intro a b hab e
    have := hv.2 a b e
    omega
  have hsub : ∀ y ∈ (List.range n).map d, y ∈ List.range n := fun y hy => by
    simp only [List.mem_map, List.mem_range] at hy ⊢
    obtain ⟨p, hp, rfl⟩ := hy
    exact hv.1 p hp
  have key : ∀ {L M : List Nat}, L.Nodup → (∀ y ∈ L, y ∈ M) → M.length ≤ L.length → ∀ y ∈ M, y ∈ L := by
    intro L
    induction L with
    | nil => intro M _ _ hl y hy; have := List.length_pos_of_mem hy; simp at hl; rw [hl] at hy; cases hy
    | cons z L ih =>
      intro M hn hs hl y hy
      have h1 := List.nodup_cons.1 hn
      by_cases e : y = z
      · rw [e]; exact List.mem_cons_self
      · have hz := hs z List.mem_cons_self
        have hle := List.length_erase_of_mem hz
        have hp := List.length_pos_of_mem hz
        refine List.mem_cons_of_mem _ (ih (M := M.erase z) h1.2 (fun u hu => ?_) ?_ y ((List.mem_erase_of_ne e).2 hy))
        · exact (List.mem_erase_of_ne (show u ≠ z from fun h => by rw [h] at hu; exact h1.1 hu)).2 (hs u (List.mem_cons_of_mem _ hu))
        · simp only [List.length_cons] at hl; omega
  have := key hnd hsub (by simp) x (by simpa using hx)
  simp only [List.mem_map, List.mem_range] at this
  obtain ⟨p, hp, h⟩ := this
  exact ⟨p, hp, h⟩
theorem sorted_back {L : Nat → Nat → Prop} (hL : Ord L) {d : Nat → Nat} {n p q : Nat} (hs : SortedR L d 0 n) (hp : p < n) (h : L (d p) (d q)) : p < q := by
  rcases Nat.lt_trichotomy p q with k | k | k
  · exact k
  · rw [k] at h; exact absurd h (fun h => hL.asymm _ _ h h)
  · exact absurd (hs q p (Nat.zero_le _) k hp) (hL.asymm _ _ h)
def one (ts : List Nat) (fs : List Bool) (x : Nat) : Bool := decide (0 < cK ts fs x 0 ts.length) && (cK ts fs x 2 ts.length == 0)
theorem one_first (ts : List Nat) (fs : List Bool) (a b : Nat) (ha : one ts fs a = true) (hb : one ts fs b = false) : LO ts fs a b := by
  unfold one at ha hb
  simp only [Bool.and_eq_true, decide_eq_true_eq, beq_iff_eq] at ha
  left
  have e1 : bl ts fs a = bt ts fs a := by
    unfold bt goodOf
    rw [ha.2, Nat.zero_mul, Nat.add_zero]
    unfold top1
    have : 0 < bl ts fs a := by
      unfold bl badOf
      exact Nat.mul_pos ha.1 (by unfold top1; split <;> omega)
    rw [if_neg (by omega)]
  have hpa := bt_pos ts fs a
  have h2 : bl ts fs b < bt ts fs b := by
    by_cases h0 : 0 < cK ts fs b 0 ts.length
    · have hc : cK ts fs b 2 ts.length ≠ 0 := fun h => by rw [h] at hb; simp [h0] at hb
      have hg : 0 < goodOf (cK ts fs b 0 ts.length) (cK ts fs b 1 ts.length) (cK ts fs b 2 ts.length) (cK ts fs b 3 ts.length) := by
        unfold goodOf
        exact Nat.mul_pos (by omega) (by unfold top1; split <;> omega)
      unfold bt
      unfold top1
      split <;> omega
    · have : bl ts fs b = 0 := by
        unfold bl badOf
        rw [show cK ts fs b 0 ts.length = 0 by omega, Nat.zero_mul]
      rw [this]
      exact bt_pos ts fs b
  rw [e1, Nat.mul_comm (bt ts fs a)]
  exact Nat.mul_lt_mul_of_pos_right h2 hpa
theorem some_first (ts : List Nat) (fs : List Bool) (a b : Nat) (ha : cK ts fs a 0 ts.length ≠ 0) (hb : cK ts fs b 0 ts.length = 0) : LO ts fs a b := by
  left
  have e0 : bl ts fs b = 0 := by unfold bl badOf; rw [hb, Nat.zero_mul]
  have e1 : 0 < bl ts fs a := by
    unfold bl badOf
    exact Nat.mul_pos (by omega) (by unfold top1; split <;> omega)
  rw [e0, Nat.zero_mul]
  exact Nat.mul_pos e1 (bt_pos ts fs b)
theorem beq_cast (B : Nat) : ((B : Int) == 0) = (B == 0) := by
  rw [Bool.eq_iff_iff, beq_iff_eq, beq_iff_eq]
  omega
theorem beq_pos (A : Nat) : ((A : Int) == 0) = !decide (0 < A) := by
  rw [Bool.eq_iff_iff, beq_iff_eq, Bool.not_eq_true', decide_eq_false_iff_not]
  omega
set_option maxHeartbeats 4000000 in
set_option maxRecDepth 100000 in
theorem spectFirst_walk (W : World) (n : Int) (ts : List Nat) (fs : List Bool) (ao fo : Option Addr) (c d : Nat) (a b : Int) (hx : IntsAt .u32 W ao (cast ts)) (h32 : ∀ t ∈ ts, t < 4294967296) (hl : ts.length ≤ maxLen) (hf : BoolsAt W fo fs) (hfl : fs.length ≤ maxLen) :
    Calls Try.prog 3 #[.int .i64 n, .slice ao ts.length c, .slice fo fs.length d, .int .i64 a, .int .i64 b] W fun e w' => e = .returned (.bool true) ∧ Below W.heap.size W w' := by
  have HX := Lib.hid (fun (w : World) (h : Below W.heap.size W w) => And.intro (hx.below (Nat.le_refl _) h) (hf.below (Nat.le_refl _) h))
  have H32 := Lib.hid (And.intro h32 (And.intro hl hfl))
  have HBL := Lib.hid (blamed_any W)
  unfold maxLen at hl hfl
  clear hx h32 hf
  go_enter Try.func3, Try.ntmps3
  go_wp2_with fail
  go_fit HBL.out
  clear HBL
  rintro e w1 ⟨rfl, hb1⟩
  have HB1 := Lib.hid hb1
  have HO := Lib.hid (order_any n ts fs ao fo c d w1 (HX.out w1 hb1).1 H32.out.1 H32.out.2.1 (HX.out w1 hb1).2 H32.out.2.2)
  clear hb1
  go_wp2_with fail
  go_fit HO.out
  clear HO
  rintro e w2 ⟨hp, hb2⟩
  have hb2' := HB1.out.trans (hb2.mono HB1.out.size)
  have HB2 := Lib.hid hb2'
  have HC := Lib.hid (counts_any n ts fs ao fo c d w2 (HX.out w2 hb2').1 H32.out.1 H32.out.2.1 (HX.out w2 hb2').2 H32.out.2.2)
  clear hb2 hb2'
  rcases hp with ⟨hs, oo, oc, dd, rfl, hi, hv, hso⟩ | ⟨hs, q, rfl, hq⟩
  rotate_left
  · have HS := Lib.hid hs
    clear hs hq
    go_wp2_with fail
    go_fit HC.out
    clear HC
    rintro e w3 ⟨hp, hb3⟩
    have HB3 := Lib.hid (HB2.out.trans (hb3.mono HB2.out.size))
    clear hb3
    rcases hp with ⟨h, _⟩ | ⟨_, q2, rfl, hq2⟩
    · exact absurd h HS.out
    clear hq2
    go_wp2_with fail
    go_quiet (fail)
    go_wp2_with fail
    go_ret
    exact ⟨by first | rfl | (simp; done), below_drewN HB3.out _⟩
  obtain ⟨N, rfl⟩ := Int.eq_ofNat_of_zero_le hs.1.1
  have hN : N ≤ 32 := by have := hs.1.2.1; omega
  rw [show ((N : Int)).toNat = N from rfl] at hi hv hso ⊢
  have HS := Lib.hid hs
  have HI := Lib.hid hi
  have HVS := Lib.hid (And.intro hv hso)
  clear hs hi hv hso
  go_wp2_with fail
  go_fit HC.out
  clear HC
  rintro e w3 ⟨hp, hb3⟩
  have HB3 := Lib.hid (HB2.out.trans (hb3.mono HB2.out.size))
  have HI3 := Lib.hid (HI.out.below (Nat.le_refl _) hb3)
  clear hb3 HI
  rcases hp with ⟨_, a3, c3, rfl, hf3⟩ | ⟨h, _⟩
  rotate_left
  · exact absurd HS.out h
  rw [show ((N : Int)).toNat = N from rfl] at hf3 ⊢
  have HF3 := Lib.hid hf3
  clear hf3
  have hcases : a < 0 ∨ (¬ a < 0 ∧ (N : Int) ≤ a) ∨ (¬ a < 0 ∧ ¬ (N : Int) ≤ a ∧ b < 0) ∨ (¬ a < 0 ∧ ¬ (N : Int) ≤ a ∧ ¬ b < 0 ∧ (N : Int) ≤ b) ∨ (¬ a < 0 ∧ ¬ (N : Int) ≤ a ∧ ¬ b < 0 ∧ ¬ (N : Int) ≤ b) := by omega
  rcases hcases with h | ⟨g1, h⟩ | ⟨g1, g2, h⟩ | ⟨g1, g2, g3, h⟩ | ⟨g1, g2, g3, g4⟩
  · have e1 : decide (a < 0) = true := decide_eq_true h
    go_wp2_with fail
    go_quiet (fail)
    go_wp2_with fail
    go_ret
    exact ⟨by first | rfl | (simp; done), below_drewN HB3.out _⟩
  · have e1 : decide (a < 0) = false := decide_eq_false g1
    have e2 : decide ((N : Int) ≤ a) = true := decide_eq_true h
    go_wp2_with fail
    go_quiet (fail)
    go_wp2_with fail
    go_ret
    exact ⟨by first | rfl | (simp; done), below_drewN HB3.out _⟩
  · have e1 : decide (a < 0) = false := decide_eq_false g1
    have e2 : decide ((N : Int) ≤ a) = false := decide_eq_false g2
    have e3 : decide (b < 0) = true := decide_eq_true h
    go_wp2_with fail
    go_quiet (fail)
    go_wp2_with fail
    go_ret
    exact ⟨by first | rfl | (simp; done), below_drewN HB3.out _⟩
  · have e1 : decide (a < 0) = false := decide_eq_false g1
    have e2 : decide ((N : Int) ≤ a) = false := decide_eq_false g2
    have e3 : decide (b < 0) = false := decide_eq_false g3
    have e4 : decide ((N : Int) ≤ b) = true := decide_eq_true h
    go_wp2_with fail
    go_quiet (fail)
    go_wp2_with fail
    go_ret
    exact ⟨by first | rfl | (simp; done), below_drewN HB3.out _⟩
  obtain ⟨x, rfl⟩ := Int.eq_ofNat_of_zero_le (show 0 ≤ a by omega)
  obtain ⟨y, rfl⟩ := Int.eq_ofNat_of_zero_le (show 0 ≤ b by omega)
  have hxN : x < N := by omega
  have hyN : y < N := by omega
  have e1 : decide ((x : Int) < 0) = false := decide_eq_false g1
  have e2 : decide ((N : Int) ≤ (x : Int)) = false := decide_eq_false g2
  have e3 : decide ((y : Int) < 0) = false := decide_eq_false g3
  have e4 : decide ((N : Int) ≤ (y : Int)) = false := decide_eq_false g4
  clear g1 g2 g3 g4
  have HL3 := Lib.hid (show ((List.range N).map fun p => ((dd p : Nat) : Int)).length = N by simp)
  go_wp2_with fail
  go_loop [16, 17] (fun tv iv => ∃ (t : Bool) (i : Nat), tv = .bool t ∧ iv = .int .i64 i ∧ i ≤ N ∧ RowKit.Hid (t = (List.range i).any fun p => dd p == x) ∧ RowKit.Hid (∀ p, p < i → dd p ≠ y)) (fun _ iv => N - (intOf iv).toNat)
  case atStart => exact ⟨false, 0, rfl, rfl, by omega, Lib.hid rfl, Lib.hid (fun p hp => by omega)⟩
  case round =>
    obtain ⟨t, i, rfl, rfl, hi, ht, hno⟩ := hrel
    by_cases hiN : i < N
    rotate_left
    · exfalso
      obtain ⟨p, hp, h⟩ := vals_onto HVS.out.1 y hyN
      exact hno.out p (by omega) h
    obtain ⟨bo, oo2, he, hc⟩ := HI3.out i (by rw [HL3.out]; exact hiN)
    subst he
    rw [show ((List.range N).map fun p => ((dd p : Nat) : Int)).getD i 0 = ((dd i : Nat) : Int) by simp [hiN]] at hc
    obtain ⟨u, hu⟩ : ∃ u, u = dd i := ⟨_, rfl⟩
    rw [← hu] at hc
    have HU := Lib.hid hu
    have HT := Lib.hid ht.out
    have HNO := Lib.hid hno.out
    clear ht hno hu
    by_cases huy : u = y
    rotate_left
    · have hb1 : ((u : Int) != (y : Int)) = true := by rw [bne_iff_ne]; omega
      have HST := Lib.hid (show ((List.range (i + 1)).any fun p => dd p == x) = (t || (u == x)) by rw [List.range_succ, List.any_append, ← HT.out]; simp [HU.out])
      have HN2 := Lib.hid (show ∀ p, p < i + 1 → dd p ≠ y from fun p hp => by
        by_cases e : p = i
        · rw [e, ← HU.out]; exact huy
        · exact HNO.out p (by omega))
      clear huy
      cases t with
      | true =>
        have HS2 := Lib.hid (HST.out.trans (show (true || (u == x)) = true from rfl))
        go_wp2_with fail
        go_round
        case rel => exact ⟨true, i + 1, rfl, by go_num, by omega, Lib.hid HS2.out.symm, HN2⟩
        case measure => simp [intOf]; omega
      | false =>
        by_cases hux : u = x
        · have hb2 : ((u : Int) == (x : Int)) = true := by rw [beq_iff_eq]; omega
          have HS2 := Lib.hid (HST.out.trans (show (false || (u == x)) = true by simp [hux]))
          clear hux
          go_wp2_with fail
          go_round
          case rel => exact ⟨true, i + 1, rfl, by go_num, by omega, Lib.hid HS2.out.symm, HN2⟩
          case measure => simp [intOf]; omega
        · have hb2 : ((u : Int) == (x : Int)) = false := by rw [beq_eq_false_iff_ne]; omega
          have HS2 := Lib.hid (HST.out.trans (show (false || (u == x)) = false by simp [hux]))
          clear hux
          go_wp2_with fail
          go_round
          case rel => exact ⟨false, i + 1, rfl, by go_num, by omega, Lib.hid HS2.out.symm, HN2⟩
          case measure => simp [intOf]; omega
    have hb1 : ((u : Int) != (y : Int)) = false := by rw [bne_eq_false_iff_eq]; omega
    have HTT := Lib.hid (show LO ts fs x y → t = true from fun h => by
      obtain ⟨p, hp, hpx⟩ := vals_onto HVS.out.1 x hxN
      have h2 : LO ts fs (dd p) (dd i) := by rw [hpx, ← HU.out, huy]; exact h
      have h3 := sorted_back (LO_ord ts fs) HVS.out.2 hp h2
      rw [HT.out, List.any_eq_true]
      exact ⟨p, List.mem_range.2 h3, by simpa using hpx⟩)
    clear huy
    obtain ⟨bq, oq, he2, hq⟩ := HF3.out x (by rw [rows4_len]; exact hxN)
    subst he2
    obtain ⟨_, _, he3, hr⟩ := HF3.out y (by rw [rows4_len]; exact hyN)
    cases he3
    rw [rows4_get ts fs x N hxN] at hq
    rw [rows4_get ts fs y N hyN] at hr
    have q0 : w3.cell? ⟨bq, oq + x * 4, none⟩ = some (.int .i64 ((cK ts fs x 0 ts.length : Nat) : Int)) := hq 0 (by omega)
    have q2 : w3.cell? ⟨bq, oq + x * 4 + 2, none⟩ = some (.int .i64 ((cK ts fs x 2 ts.length : Nat) : Int)) := hq 2 (by omega)
    have r0 : w3.cell? ⟨bq, oq + y * 4, none⟩ = some (.int .i64 ((cK ts fs y 0 ts.length : Nat) : Int)) := hr 0 (by omega)
    have r2 : w3.cell? ⟨bq, oq + y * 4 + 2, none⟩ = some (.int .i64 ((cK ts fs y 2 ts.length : Nat) : Int)) := hr 2 (by omega)
    have f1 : one ts fs x = true → one ts fs y = false → t = true := fun h1 h2 => HTT.out (one_first ts fs x y h1 h2)
    have f2 : cK ts fs x 0 ts.length ≠ 0 → cK ts fs y 0 ts.length = 0 → t = true := fun h1 h2 => HTT.out (some_first ts fs x y h1 h2)
    unfold one at f1
    obtain ⟨A, hA⟩ : ∃ A, A = cK ts fs x 0 ts.length := ⟨_, rfl⟩
    obtain ⟨B, hB⟩ : ∃ B, B = cK ts fs x 2 ts.length := ⟨_, rfl⟩
    obtain ⟨C, hC⟩ : ∃ C, C = cK ts fs y 0 ts.length := ⟨_, rfl⟩
    obtain ⟨D, hD⟩ : ∃ D, D = cK ts fs y 2 ts.length := ⟨_, rfl⟩
    rw [← hA] at q0 f1 f2
    rw [← hB] at q2 f1
    rw [← hC] at r0 f1 f2
    rw [← hD] at r2 f1
    obtain ⟨p1, hp1⟩ : ∃ p1, p1 = decide (0 < A) := ⟨_, rfl⟩
    obtain ⟨p2, hp2⟩ : ∃ p2, p2 = (B == 0) := ⟨_, rfl⟩
    obtain ⟨p3, hp3⟩ : ∃ p3, p3 = decide (0 < C) := ⟨_, rfl⟩
    obtain ⟨p4, hp4⟩ : ∃ p4, p4 = (D == 0) := ⟨_, rfl⟩
    have k1 : decide ((0 : Int) < (A : Int)) = p1 := by rw [hp1]; simp
    have k2 : ((B : Int) == 0) = p2 := by rw [hp2]; exact beq_cast B
    have k3 : decide ((0 : Int) < (C : Int)) = p3 := by rw [hp3]; simp
    have k4 : ((D : Int) == 0) = p4 := by rw [hp4]; exact beq_cast D
    have k5 : ((A : Int) == 0) = !p1 := by rw [hp1]; exact beq_pos A
    have k6 : 0 < A ↔ p1 = true := by rw [hp1]; simp
    have k7 : 0 < C ↔ p3 = true := by rw [hp3]; simp
    have F1 := Lib.hid (show (p1 && p2) = true → (p3 && p4) = false → t = true by rw [hp1, hp2, hp3, hp4]; exact f1)
    have F2 := Lib.hid (show p1 = true → p3 = false → t = true from fun h1 h2 => f2 (Nat.pos_iff_ne_zero.1 (k6.2 h1)) (by
      rcases Nat.eq_zero_or_pos C with h | h
      · exact h
      · rw [k7.1 h] at h2; cases h2))
    have HBE := Lib.hid HB3.out
    have hxN2 : (x : Int) < (N : Int) := by omega
    have hyN2 : (y : Int) < (N : Int) := by omega
    clear f1 f2 hA hB hC hD hp1 hp2 hp3 hp4 hq hr HTT HT HNO HU k6 k7
    cases p1 <;> cases p2 <;> cases p3 <;> cases p4 <;> cases t
    all_goals first
      | exact absurd (F1.out rfl rfl : false = true) (by decide)
      | exact absurd (F2.out rfl rfl : false = true) (by decide)
      | skip
    all_goals clear F1 F2
    all_goals simp only [Bool.not_false, Bool.not_true] at k5
    all_goals go_wp2_with fail
    all_goals go_ret
    all_goals refine ⟨?_, HBE.out⟩
    all_goals first
      | rfl
      | (exfalso; simp only [decide_eq_false_iff_not, decide_eq_true_eq] at k1 k3; omega)
      | (simp; done)
end Go.Proofs.Ythfiecakmlpdiaa
