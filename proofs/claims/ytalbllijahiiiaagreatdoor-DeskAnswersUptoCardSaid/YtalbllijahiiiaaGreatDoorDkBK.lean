/- assayerref2.Answered: show. -/
import Derived.Test.YtalbllijahiiiaaGreatDoorDkBJ
import Derived.Deep.RegionHeld
namespace Go.Proofs.YtalbllijahiiiaaGreatDoor
open Go.RowKit Go.Mine Go.Mine.Desk

set_option maxRecDepth 100000 in
set_option maxHeartbeats 4000000 in
theorem ans_show (g : G) (n : Int) (hg : g.right) (hn : near n) (gK xa gb : Int) (gao : Option Addr) (gn gc : Nat) (s : Bytes) (hs : s.length ≤ 1100000) (x0 x1 : Bytes) (hw : cuts 32 s = [x0, x1]) (hx0 : x0 = kShow) (w : World) (hv : GenAt w (.agg #[.int .i64 gK, .int .i64 xa, .int .i64 gb, .slice gao gn gc]) g) :
    Calls Tryz.prog 8 #[.agg #[.int .i64 gK, .int .i64 xa, .int .i64 gb, .slice gao gn gc, .int .i64 n], str s] w (AnsPost (lineR (g, n) s) w) := by
  have hne : s ≠ kCount := fun h => by
    rw [h] at hw
    have h2 : cuts 32 kCount = [kCount] := rfl
    rw [h2] at hw
    simp at hw
  have hsc : (s == [99, 111, 117, 110, 116]) = false := beq_eq_false_iff_ne.2 hne
  have HR := Lib.hid (show lineR (g, n) s = lineOut (g, n) (showF (g, n) x1) by unfold lineR; rw [hw, hx0]; rfl)
  have hx1 : x1.length ≤ 1100000 := Nat.le_trans (cuts_part 32 s x1 (by rw [hw]; simp)) hs
  obtain ⟨w0, hw0⟩ : ∃ w0, w0 = (w.alloc (.cells #[.int .i64 gK, .int .i64 xa, .int .i64 gb, .slice gao gn gc, .int .i64 n] 30)).alloc (.cells #[.int .i64 0, .int .i64 0, .int .i64 0, .slice none 0 0, .int .i64 0] 30) := ⟨_, rfl⟩
  obtain ⟨B, hB⟩ : ∃ B, w.heap.size = B := ⟨_, rfl⟩
  have HA0 := Lib.hid (AN.start hB hv hw0)
  have HC := Lib.hid (show Calls Tryz.prog 7 #[str s, .int .u8 32] w0 (fun e w' => (∃ v, e = .returned v ∧ w'.ownsRow w0.heap.size 9 1 v (cuts 32 s).length ((cuts 32 s).map str)) ∧ Below w0.heap.size w0 w') from by
    have h := Cut_any s 32 hs w0
    rw [show (((32 : UInt8).toNat : Nat) : Int) = 32 from rfl] at h
    exact h)
  have HW := Lib.hid hw0
  have HGN := Lib.hid (And.intro hg hn)
  clear hw0 hv hg hn
  rw [hw] at HC
  have b0 : (x0 == [115, 104, 111, 119]) = true := by rw [hx0]; rfl
  have HTO := Lib.hid (fun W => TapeOf_any x1 hx1 W)
  simp only [List.length_cons, List.length_nil, Nat.zero_add, Nat.reduceAdd] at HC
  clear hne hw hx0 hs hx1
  go_enter Tryz.func8, Tryz.ntmps8
  go_upto_region 1 with fail
  rw [← HW.out]
  go_wp2_with fail
  refine HC.out.mono ?_
  clear HC
  rintro e w1 ⟨⟨v, rfl, hown⟩, hb1⟩
  obtain ⟨ro, rc, rfl⟩ := owns_shape hown
  have HA1 := Lib.hid (HA0.out.on hb1)
  obtain ⟨q, rfl⟩ : ∃ q, ro = some ⟨q, 0, none⟩ := by
    rcases hown.2 with ⟨_, h0⟩ | ⟨q, cap, cur, h1, _⟩
    · omega
    · simp only [Value.slice.injEq] at h1
      exact ⟨q, h1.1⟩
  have HCW := Lib.hid (show ∀ W, Below w1.heap.size w1 W → W.cell? ⟨q, 0, none⟩ = some (str x0) ∧ W.cell? ⟨q, 1, none⟩ = some (str x1) from fun W hb => ⟨(hb.cell (hown.lt q rfl).2).trans (hown.cellAt 0 (by omega)), (hb.cell (hown.lt q rfl).2).trans (hown.cellAt 1 (by omega))⟩)
  obtain ⟨h0, h1⟩ := HCW.out w1 (Below.refl _ _)
  clear hown hb1
  go_wp2_with fail
  refine (HTO.out w1).mono ?_
  clear HTO
  rintro e w2 ⟨hb2, hhow⟩
  have HA2 := Lib.hid (HA1.out.on hb2)
  rcases hhow with ⟨l, uo, uc, htv, rfl, hil, hll, h64, hcap⟩ | ⟨htv, rfl⟩
  · have HTV := Lib.hid htv
    have HB2 := Lib.hid hb2
    have HRP := Lib.hid (ReplayOf_any g (.agg #[.int .i64 gK, .int .i64 xa, .int .i64 gb, .slice gao gn gc]) HGN.out.1 l uo uc hll w2 hil HA2.out.gen)
    have HIL := Lib.hid (And.intro hil hcap)
    obtain ⟨ln, hln⟩ : ∃ ln, l.length = ln := ⟨_, rfl⟩
    have HLN := Lib.hid hln
    rw [hln] at HRP ⊢
    clear htv hb2 hil hll h64 hcap hln
    have c0 : w2.cell? ⟨B, 0, none⟩ = some (.int .i64 gK) := HA2.out.dsk.cell 0
    have c1 : w2.cell? ⟨B, 1, none⟩ = some (.int .i64 xa) := HA2.out.dsk.cell 1
    have c2 : w2.cell? ⟨B, 2, none⟩ = some (.int .i64 gb) := HA2.out.dsk.cell 2
    have c3 : w2.cell? ⟨B, 3, none⟩ = some (.slice gao gn gc) := HA2.out.dsk.cell 3
    have c4 : w2.cell? ⟨B, 4, none⟩ = some (.int .i64 n) := HA2.out.dsk.cell 4
    go_wp2_with fail
    refine HRP.out.mono ?_
    clear HRP c0 c1 c2 c3 c4
    rintro e w3 ⟨hb3, hhow⟩
    have HA3 := Lib.hid (HA2.out.on hb3)
    obtain ⟨Q, hQ⟩ : ∃ Q, w3.heap.size = Q := ⟨_, rfl⟩
    rcases hhow with ⟨x, vk, vz, vo, vn, vc, hx, rfl, hval⟩ | ⟨c, hx, hc, rfl⟩
    · obtain ⟨w4, hw4⟩ : ∃ w4, w4 = w3.alloc (.cells #[.bool vk, .int .i64 vz, .slice vo vn vc] 53) := ⟨_, rfl⟩
      have hb4 : Below w3.heap.size w3 w4 := by rw [hw4]; exact (Below.refl _ _).alloc (Nat.le_refl _) _
      have kq : Blk w4 Q 53 #[.bool vk, .int .i64 vz, .slice vo vn vc] := by rw [hw4, ← hQ]; exact Blk.new _ _ _
      have HA4 := Lib.hid (HA3.out.on hb4)
      have HX := Lib.hid hx
      have HVL := Lib.hid (hval.below hb4)
      have HKQ := Lib.hid kq
      have HIL4 := Lib.hid (ints_keep HIL.out.1 (hb3.trans (hb4.mono hb3.size)))
      have h0' := (HCW.out w4 (HB2.out.trans ((hb3.trans (hb4.mono hb3.size)).mono HB2.out.size))).1
      have HW4 := Lib.hid hw4
      have HP := Lib.hid (show lineR (g, n) s = (vtext x, (g, n)) by rw [HR.out]; unfold showF; rw [HTV.out]; simp only; rw [HX.out]; rfl)
      have HVT := Lib.hid (ValueText_any x _ _ w4.drew HVL.out (replay_small HGN.out.1 HX.out))
      clear hb3 hx hval hw4 hb4 kq
      go_upto_region 12 with fail
      rw [← HW4.out]
      have k0 : w4.cell? ⟨Q, 0, none⟩ = some (.bool vk) := HKQ.out.cell 0
      have k1 : w4.cell? ⟨Q, 1, none⟩ = some (.int .i64 vz) := HKQ.out.cell 1
      have k2 : w4.cell? ⟨Q, 2, none⟩ = some (.slice vo vn vc) := HKQ.out.cell 2
      have c0 : w4.cell? ⟨B, 0, none⟩ = some (.int .i64 gK) := HA4.out.dsk.cell 0
      have c1 : w4.cell? ⟨B, 1, none⟩ = some (.int .i64 xa) := HA4.out.dsk.cell 1
      have c2 : w4.cell? ⟨B, 2, none⟩ = some (.int .i64 gb) := HA4.out.dsk.cell 2
      have c3 : w4.cell? ⟨B, 3, none⟩ = some (.slice gao gn gc) := HA4.out.dsk.cell 3
      have c4 : w4.cell? ⟨B, 4, none⟩ = some (.int .i64 n) := HA4.out.dsk.cell 4
      have hqb : Q ≠ B + 1 := fun h => by
        have h1 := HKQ.out
        rw [h] at h1
        exact absurd rfl (blk_types h1 HA4.out.res (by decide))
      have hqb2 : B + 1 ≠ Q := fun h => hqb h.symm
      have HSK := Lib.hid (show ∀ w' : World, Below w4.heap.size w4 w' → (w'.cell? ⟨B, 0, none⟩ = some (.int .i64 gK) ∧ w'.cell? ⟨B, 1, none⟩ = some (.int .i64 xa) ∧ w'.cell? ⟨B, 2, none⟩ = some (.int .i64 gb) ∧ w'.cell? ⟨B, 3, none⟩ = some (.slice gao gn gc) ∧ w'.cell? ⟨B, 4, none⟩ = some (.int .i64 n) ∧ w'.cell? ⟨Q, 0, none⟩ = some (.bool vk) ∧ w'.cell? ⟨Q, 1, none⟩ = some (.int .i64 vz) ∧ w'.cell? ⟨Q, 2, none⟩ = some (.slice vo vn vc)) from fun w' hb => ⟨(HA4.out.dsk.below hb).cell 0, (HA4.out.dsk.below hb).cell 1, (HA4.out.dsk.below hb).cell 2, (HA4.out.dsk.below hb).cell 3, (HA4.out.dsk.below hb).cell 4, (HKQ.out.below hb).cell 0, (HKQ.out.below hb).cell 1, (HKQ.out.below hb).cell 2⟩)
      go_wp2_with fail
      refine wp_region_held_drew (S := fun w' => w'.cell? ⟨B, 0, none⟩ = some (.int .i64 gK) ∧ w'.cell? ⟨B, 1, none⟩ = some (.int .i64 xa) ∧ w'.cell? ⟨B, 2, none⟩ = some (.int .i64 gb) ∧ w'.cell? ⟨B, 3, none⟩ = some (.slice gao gn gc) ∧ w'.cell? ⟨B, 4, none⟩ = some (.int .i64 n) ∧ w'.cell? ⟨Q, 0, none⟩ = some (.bool vk) ∧ w'.cell? ⟨Q, 1, none⟩ = some (.int .i64 vz) ∧ w'.cell? ⟨Q, 2, none⟩ = some (.slice vo vn vc)) (by kernel_rfl) ?hSR1_0 (fun hHeld => ?_)
      case hSR1_0 =>
        exact HSK.out _ ((Below.refl _ _).drew)
      refine wpAnyH_take (i := 0) (v := ?vvR1_0) rfl (by kernel_rfl) (by kernel_rfl) (by kernel_rfl) (fun _ _ _ h => h) (Or.inl ⟨by rfl, ?hyR1_0⟩) (by assumption) ?restR1_0
      case hyR1_0 => ((intro w hSw; (try dsimp only at hSw); go_simp) <;> with_reducible rfl)
      try simp only [sA, sC, Act.put, sD, sE, sF]
      refine wpAnyH_take (i := 1) (v := ?vvR1_1) rfl (by kernel_rfl) (by kernel_rfl) (by kernel_rfl) (fun _ _ _ h => h) (Or.inl ⟨by rfl, ?hyR1_1⟩) (by assumption) ?restR1_1
      case hyR1_1 => ((intro w hSw; (try dsimp only at hSw); go_simp) <;> with_reducible rfl)
      try simp only [sA, sB, sC, Act.put, sD, sE, sF]
      refine wpAnyH_ready (rs := [2]) (by kernel_rfl) (by simp) ?_
      refine AllReadyH.cons rfl (fun K hK => ?_) AllReadyH.nil
      go_simp
      go_at_call 17
      refine (HVT.out).mono ?_
      rintro e w5 ⟨rfl, hb5⟩
      have hb5' : Below w4.heap.size w4 w5 := ((Below.refl _ w4).drew).trans hb5
      have HA5 := Lib.hid (HA4.out.on hb5')
      have HB5 := Lib.hid hb5'
      clear hb5 hb5'
      have r0 : w5.cell? ⟨B + 1, 0, none⟩ = some (.int .i64 0) := HA5.out.res.cell 0
      have r1 : w5.cell? ⟨B + 1, 1, none⟩ = some (.int .i64 0) := HA5.out.res.cell 1
      have r2 : w5.cell? ⟨B + 1, 2, none⟩ = some (.int .i64 0) := HA5.out.res.cell 2
      have r3 : w5.cell? ⟨B + 1, 3, none⟩ = some (.slice none 0 0) := HA5.out.res.cell 3
      have r4 : w5.cell? ⟨B + 1, 4, none⟩ = some (.int .i64 0) := HA5.out.res.cell 4
      have rf0 : w5.frozen? ⟨B + 1, 0, none⟩ = false := HA5.out.res.froz 0
      have rf1 : w5.frozen? ⟨B + 1, 1, none⟩ = false := HA5.out.res.froz 1
      have rf2 : w5.frozen? ⟨B + 1, 2, none⟩ = false := HA5.out.res.froz 2
      have rf3 : w5.frozen? ⟨B + 1, 3, none⟩ = false := HA5.out.res.froz 3
      have rf4 : w5.frozen? ⟨B + 1, 4, none⟩ = false := HA5.out.res.froz 4
      refine hK.out _ _ ?hSR1_2 (fun hHeld => ?_)
      case hSR1_2 => exact HSK.out _ HB5.out
      clear hK K
      try simp only [sA, sB, sC, Act.put, sD, sE, sF]
      refine wpAnyH_ready (rs := [3]) (by kernel_rfl) (by simp) ?_
      refine AllReadyH.cons rfl (fun K hK => ?_) AllReadyH.nil
      go_simp
      refine hK.out _ _ ?hSR1_3 (fun hHeld => ?_)
      case hSR1_3 => go_keep
      clear hK K
      try simp only [sA, sB, sC, Act.put, sD, sE, sF]
      refine wpAnyH_take (i := 4) (v := ?vvR1_4) rfl (by kernel_rfl) (by kernel_rfl) (by kernel_rfl) (fun _ _ _ h => h) (Or.inl ⟨by rfl, ?hyR1_4⟩) (by assumption) ?restR1_4
      case hyR1_4 => ((intro w hSw; (try dsimp only at hSw); go_simp) <;> with_reducible rfl)
      try simp only [sA, sB, sC, Act.put, sD, sE, sF]
      refine wpAnyH_done (by kernel_rfl) ?_ _
      go_wp2_with fail
      refine bodyPost_ret (v := .tuple #[.agg #[.int .i64 gK, .int .i64 xa, .int .i64 gb, .slice gao gn gc, .int .i64 n], str (vtext x)]) (by simp [results, Tryz.results8, go_sem, r0, r1, r2, r3, r4]) rfl ?_
      first | exact HA5.out.told hB HGN.out.1 HGN.out.2 HP.out rfl | exact (HA5.out.told hB HGN.out.1 HGN.out.2 HP.out rfl).drew
    · obtain ⟨w4, hw4⟩ : ∃ w4, w4 = w3.alloc (.cells #[.bool false, .int .i64 0, .slice none 0 0] 53) := ⟨_, rfl⟩
      have hb4 : Below w3.heap.size w3 w4 := by rw [hw4]; exact (Below.refl _ _).alloc (Nat.le_refl _) _
      have HA4 := Lib.hid (HA3.out.on hb4)
      have HP := Lib.hid (show lineR (g, n) s = (errName c, (g, n)) by rw [HR.out]; unfold showF; rw [HTV.out]; simp only; rw [hx]; rfl)
      have hne : (c != 0) = true := by rw [bne_iff_ne]; exact hc
      have hne2 : ¬ c = 0 := hc
      have HER := Lib.hid (error_any c)
      have HW4 := Lib.hid hw4
      clear hb3 hx hw4 hb4 hc
      go_upto_region 12 with fail
      rw [← HW4.out]
      have c0 : w4.cell? ⟨B, 0, none⟩ = some (.int .i64 gK) := HA4.out.dsk.cell 0
      have c1 : w4.cell? ⟨B, 1, none⟩ = some (.int .i64 xa) := HA4.out.dsk.cell 1
      have c2 : w4.cell? ⟨B, 2, none⟩ = some (.int .i64 gb) := HA4.out.dsk.cell 2
      have c3 : w4.cell? ⟨B, 3, none⟩ = some (.slice gao gn gc) := HA4.out.dsk.cell 3
      have c4 : w4.cell? ⟨B, 4, none⟩ = some (.int .i64 n) := HA4.out.dsk.cell 4
      have r0 : w4.cell? ⟨B + 1, 0, none⟩ = some (.int .i64 0) := HA4.out.res.cell 0
      have r1 : w4.cell? ⟨B + 1, 1, none⟩ = some (.int .i64 0) := HA4.out.res.cell 1
      have r2 : w4.cell? ⟨B + 1, 2, none⟩ = some (.int .i64 0) := HA4.out.res.cell 2
      have r3 : w4.cell? ⟨B + 1, 3, none⟩ = some (.slice none 0 0) := HA4.out.res.cell 3
      have r4 : w4.cell? ⟨B + 1, 4, none⟩ = some (.int .i64 0) := HA4.out.res.cell 4
      have rf0 : w4.frozen? ⟨B + 1, 0, none⟩ = false := HA4.out.res.froz 0
      have rf1 : w4.frozen? ⟨B + 1, 1, none⟩ = false := HA4.out.res.froz 1
      have rf2 : w4.frozen? ⟨B + 1, 2, none⟩ = false := HA4.out.res.froz 2
      have rf3 : w4.frozen? ⟨B + 1, 3, none⟩ = false := HA4.out.res.froz 3
      have rf4 : w4.frozen? ⟨B + 1, 4, none⟩ = false := HA4.out.res.froz 4
      go_wp2_with fail
      go_still_tail 3, (by kernel_rfl)
      still_call (HER.out _)
      repeat still_step
      refine wpStill_nil ?_
      go_wp2_with fail
      refine bodyPost_ret (v := .tuple #[.agg #[.int .i64 gK, .int .i64 xa, .int .i64 gb, .slice gao gn gc, .int .i64 n], str (errName c)]) (by simp [results, Tryz.results8, go_sem, r0, r1, r2, r3, r4]) rfl ?_
      first | exact HA4.out.told hB HGN.out.1 HGN.out.2 HP.out rfl | exact (HA4.out.told hB HGN.out.1 HGN.out.2 HP.out rfl).drew
  · have HP := Lib.hid (show lineR (g, n) s = ([69, 114, 114, 83, 121, 110, 116, 97, 120], (g, n)) by rw [HR.out]; unfold showF; rw [htv]; rfl)
    clear htv hb2
    have c0 : w2.cell? ⟨B, 0, none⟩ = some (.int .i64 gK) := HA2.out.dsk.cell 0
    have c1 : w2.cell? ⟨B, 1, none⟩ = some (.int .i64 xa) := HA2.out.dsk.cell 1
    have c2 : w2.cell? ⟨B, 2, none⟩ = some (.int .i64 gb) := HA2.out.dsk.cell 2
    have c3 : w2.cell? ⟨B, 3, none⟩ = some (.slice gao gn gc) := HA2.out.dsk.cell 3
    have c4 : w2.cell? ⟨B, 4, none⟩ = some (.int .i64 n) := HA2.out.dsk.cell 4
    have r0 : w2.cell? ⟨B + 1, 0, none⟩ = some (.int .i64 0) := HA2.out.res.cell 0
    have r1 : w2.cell? ⟨B + 1, 1, none⟩ = some (.int .i64 0) := HA2.out.res.cell 1
    have r2 : w2.cell? ⟨B + 1, 2, none⟩ = some (.int .i64 0) := HA2.out.res.cell 2
    have r3 : w2.cell? ⟨B + 1, 3, none⟩ = some (.slice none 0 0) := HA2.out.res.cell 3
    have r4 : w2.cell? ⟨B + 1, 4, none⟩ = some (.int .i64 0) := HA2.out.res.cell 4
    have rf0 : w2.frozen? ⟨B + 1, 0, none⟩ = false := HA2.out.res.froz 0
    have rf1 : w2.frozen? ⟨B + 1, 1, none⟩ = false := HA2.out.res.froz 1
    have rf2 : w2.frozen? ⟨B + 1, 2, none⟩ = false := HA2.out.res.froz 2
    have rf3 : w2.frozen? ⟨B + 1, 3, none⟩ = false := HA2.out.res.froz 3
    have rf4 : w2.frozen? ⟨B + 1, 4, none⟩ = false := HA2.out.res.froz 4
    go_wp2_with fail
    refine bodyPost_ret (v := .tuple #[.agg #[.int .i64 gK, .int .i64 xa, .int .i64 gb, .slice gao gn gc, .int .i64 n], str ([69, 114, 114, 83, 121, 110, 116, 97, 120])]) (by simp [results, Tryz.results8, go_sem, r0, r1, r2, r3, r4]) rfl ?_
    first | exact HA2.out.told hB HGN.out.1 HGN.out.2 HP.out rfl | exact (HA2.out.told hB HGN.out.1 HGN.out.2 HP.out rfl).drew
end Go.Proofs.YtalbllijahiiiaaGreatDoor
