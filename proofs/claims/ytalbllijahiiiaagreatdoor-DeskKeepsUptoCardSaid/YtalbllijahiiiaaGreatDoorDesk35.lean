/- runs.Run. -/
import Derived.Test.YtalbllijahiiiaaGreatDoorDesk34
namespace Go.Proofs.YtalbllijahiiiaaGreatDoor
open Go.RowKit Go.Mine Go.Mine.Desk

/-- What lies there between two runs. -/
structure RI (g : G) (n sd many : Int) (xk ga gb : Int) (gao : Option Addr) (gn gc eb B rb sb : Nat) (f : Nat) (st gm r : Int) (w wr : World) : Prop where
  below : Below w.heap.size w wr
  kg : Blk wr B 28 #[.int .i64 xk, .int .i64 ga, .int .i64 gb, .slice gao gn gc]
  ke : Blk wr (B + 1) 41 #[.int .i64 7, .int .i64 0, .slice (some ⟨eb, 0, none⟩) 2 2]
  kr : Blk wr (B + 1 + 1) 66 #[.int .i64 0, .bool false, .slice none 0 0, .int .i64 0]
  kq : Blk wr rb 66 #[.int .i64 r, .bool false, .slice none 0 0, .int .i64 0]
  ks : Blk wr sb 87 #[.int .u64 st, .int .u64 gm]
  ok : (Seed.mk st gm).ok
  same : runF g n f ⟨st, gm⟩ r = runF g n many.toNat (Seed.new sd) 0
  sum : r + f = many
  r0 : 0 ≤ r
  rB : B + 2 < rb
  sB : B + 2 < sb
  rs : rb ≠ sb
theorem neq_same2 (w : World) : (binOp BinOp.neq 100 (.iface 36 (.int .i64 2)) (.iface 36 (.int .i64 2))).run Tryz.prog w = .ok (.bool false) w := by kernel_rfl
theorem eql_nil (w : World) : (binOp BinOp.eql 100 .nilIface .nilIface).run Tryz.prog w = .ok (.bool true) w := by kernel_rfl
theorem eql_errno (c : Int) (w : World) : (binOp BinOp.eql 100 (.iface 36 (.int .i64 c)) .nilIface).run Tryz.prog w = .ok (.bool false) w := by kernel_rfl
theorem ints_other {w : World} {po : Option Addr} {xs : List Int} {b i : Nat} {v : Value} (h : IntsAt .i64 w po xs) (hne : ∀ q o, po = some ⟨q, o, none⟩ → q ≠ b) : IntsAt .i64 (w.setCell ⟨b, i, none⟩ v) po xs := fun j hj => by
  obtain ⟨q, o, h1, h2⟩ := h j hj
  refine ⟨q, o, h1, ?_⟩
  rw [World.cell?_of_block (w := w) (Below.heap_setCell w ⟨b, i, none⟩ v q (hne q o h1))]
  exact h2
set_option maxRecDepth 100000 in
set_option maxHeartbeats 4000000 in
theorem run_any (g : G) (v : Value) (hr : g.right) (n : Int) (eb : Nat) (sd many : Int) (hmany : near many) (w : World) (hg : Gl w) (he : ExprAt w eb n) (hv : GenAt w v g) :
    Calls Tryz.prog 98 #[v, wholeE eb, .int .i64 sd, .int .i64 many] w (RunPost g n sd many w) := by
  obtain ⟨xk, ga, gb, gao, gn, gc, hsh⟩ := hv.shape
  have hnn := neq_nil
  obtain ⟨w0, hw0⟩ : ∃ w0, w0 = ((w.alloc (.cells #[.int .i64 xk, .int .i64 ga, .int .i64 gb, .slice gao gn gc] 28)).alloc (.cells #[.int .i64 7, .int .i64 0, .slice (some ⟨eb, 0, none⟩) 2 2] 41)).alloc (.cells #[.int .i64 0, .bool false, .slice none 0 0, .int .i64 0] 66) := ⟨_, rfl⟩
  have hb0 : Below w.heap.size w w0 := by rw [hw0]; exact (((Below.refl w.heap.size w).alloc (Nat.le_refl _) _).alloc (by simp) _).alloc (by simp; omega) _
  have k0 : Blk w0 w.heap.size 28 #[.int .i64 xk, .int .i64 ga, .int .i64 gb, .slice gao gn gc] := by rw [hw0]; exact ((Blk.new _ _ _).alloc _).alloc _
  have k1 : Blk w0 (w.heap.size + 1) 41 #[.int .i64 7, .int .i64 0, .slice (some ⟨eb, 0, none⟩) 2 2] := by rw [hw0]; have := (Blk.new (w.alloc (.cells #[.int .i64 xk, .int .i64 ga, .int .i64 gb, .slice gao gn gc] 28)) 41 #[.int .i64 7, .int .i64 0, .slice (some ⟨eb, 0, none⟩) 2 2]).alloc (.cells #[.int .i64 0, .bool false, .slice none 0 0, .int .i64 0] 66); simpa using this
  have k2 : Blk w0 (w.heap.size + 2) 66 #[.int .i64 0, .bool false, .slice none 0 0, .int .i64 0] := by rw [hw0]; have := Blk.new ((w.alloc (.cells #[.int .i64 xk, .int .i64 ga, .int .i64 gb, .slice gao gn gc] 28)).alloc (.cells #[.int .i64 7, .int .i64 0, .slice (some ⟨eb, 0, none⟩) 2 2] 41)) 66 #[.int .i64 0, .bool false, .slice none 0 0, .int .i64 0]; simpa using this
  obtain ⟨B, hB⟩ : ∃ B, w.heap.size = B := ⟨_, rfl⟩
  rw [hB] at k0 k1 k2
  rw [show B + 2 = B + 1 + 1 from rfl] at k2
  have HC0 := Lib.hid (checkR_any g v hr w0 (hv.on hb0))
  have HC1 := Lib.hid (fun (wx : World) (hbx : Below w0.heap.size w0 wx) => expr_check n eb wx ((hg.on hb0).on hbx) (((show Blk w eb _ _ from he).below hb0).below hbx))
  have HK := Lib.hid (And.intro hb0 (And.intro k0 (And.intro k1 k2)))
  have HW := Lib.hid hw0
  have HV := Lib.hid (And.intro hv (And.intro hg (And.intro he hr)))
  have HSH := Lib.hid hsh
  have HBB := Lib.hid hB
  rw [hsh] at HC0 ⊢
  have c0 : w0.cell? ⟨B, 0, none⟩ = some (.int .i64 xk) := k0.cell 0
  have c1 : w0.cell? ⟨B, 1, none⟩ = some (.int .i64 ga) := k0.cell 1
  have c2 : w0.cell? ⟨B, 2, none⟩ = some (.int .i64 gb) := k0.cell 2
  have c3 : w0.cell? ⟨B, 3, none⟩ = some (.slice gao gn gc) := k0.cell 3
  rw [hw0] at HC0 c0 c1 c2 c3
  clear hw0 hb0 k0 k1 k2 hv hg he hr hsh
  go_enter Tryz.func98, Tryz.ntmps98
  go_wp2_with fail
  refine HC0.out.mono ?_
  clear HC0
  rintro e w1 ⟨rfl, hb1⟩
  rw [← HW.out] at hb1
  have HC1a := Lib.hid (HC1.out w1 hb1)
  have k1 := HK.out.2.2.1.below hb1
  have e0 : w1.cell? ⟨B + 1, 0, none⟩ = some (.int .i64 7) := k1.cell 0
  have e1 : w1.cell? ⟨B + 1, 1, none⟩ = some (.int .i64 0) := k1.cell 1
  have e2 : w1.cell? ⟨B + 1, 2, none⟩ = some (.slice (some ⟨eb, 0, none⟩) 2 2) := k1.cell 2
  have HB1 := Lib.hid hb1
  clear hb1 k1 c0 c1 c2 c3
  go_wp2_with fail
  refine HC1a.out.mono ?_
  clear HC1a
  rintro e w2 ⟨rfl, hb2⟩
  have hb2' := HB1.out.trans (hb2.mono HB1.out.size)
  have k0 := HK.out.2.1.below hb2'
  have k1 := HK.out.2.2.1.below hb2'
  have k2 := HK.out.2.2.2.below hb2'
  have hbw := HK.out.1.trans (hb2'.mono HK.out.1.size)
  have hlt := k2.lt
  have H2 := Lib.hid (And.intro hbw (And.intro k0 (And.intro k1 k2)))
  have r0 : w2.cell? ⟨B + 1 + 1, 0, none⟩ = some (.int .i64 0) := k2.cell 0
  have r1 : w2.cell? ⟨B + 1 + 1, 1, none⟩ = some (.bool false) := k2.cell 1
  have r2 : w2.cell? ⟨B + 1 + 1, 2, none⟩ = some (.slice none 0 0) := k2.cell 2
  have r3 : w2.cell? ⟨B + 1 + 1, 3, none⟩ = some (.int .i64 0) := k2.cell 3
  have f0 := k2.froz 0
  have f1 := k2.froz 1
  have f2 := k2.froz 2
  have f3 := k2.froz 3
  clear hb2 hb2' k0 k1 k2 e0 e1 e2 hbw
  by_cases h1 : many < 0
  · have d1 : decide (many < 0) = true := decide_eq_true h1
    have HP := Lib.hid (show runR g n sd many = .error 1 by unfold runR; rw [if_pos (.inl h1)])
    go_wp2_with fail
    refine bodyPost_ret (v := .tuple #[.agg #[.int .i64 0, .bool false, .slice none 0 0, .int .i64 0], .iface 36 (.int .i64 1)]) (by simp [results, Tryz.results98, go_sem, r0, r1, r2, r3]) rfl ⟨?_, .inl ⟨1, HP.out, rfl⟩⟩
    have h := H2.out.1
    rw [HBB.out] at h
    rw [HBB.out]
    exact (((h.setCell (by simp; omega) _).setCell (by simp; omega) _).setCell (by simp; omega) _).setCell (by simp; omega) _
  · have d1 : decide (many < 0) = false := decide_eq_false h1
    by_cases h2 : 50 < many
    · have d2 : decide (50 < many) = true := decide_eq_true h2
      have HP := Lib.hid (show runR g n sd many = .error 1 by unfold runR; rw [if_pos (.inr h2)])
      go_wp2_with fail
      refine bodyPost_ret (v := .tuple #[.agg #[.int .i64 0, .bool false, .slice none 0 0, .int .i64 0], .iface 36 (.int .i64 1)]) (by simp [results, Tryz.results98, go_sem, r0, r1, r2, r3]) rfl ⟨?_, .inl ⟨1, HP.out, rfl⟩⟩
      have h := H2.out.1
      rw [HBB.out] at h
      rw [HBB.out]
      exact (((h.setCell (by simp; omega) _).setCell (by simp; omega) _).setCell (by simp; omega) _).setCell (by simp; omega) _
    · have d2 : decide (50 < many) = false := decide_eq_false h2
      have HP := Lib.hid (show runR g n sd many = .ok (runF g n many.toNat (Seed.new sd) 0) by unfold runR; rw [if_neg (by omega)])
      have HNW := Lib.hid (fun wx => new_any sd wx)
      clear r0 r1 r2 r3 f0 f1 f2 f3
      go_wp2_with fail
      refine (HNW.out _).mono ?_
      rintro e w4 ⟨rfl, hb4⟩
      have hn := Seed.new_ok sd
      obtain ⟨sn, hsn⟩ : ∃ sn, sn = Seed.new sd := ⟨_, rfl⟩
      rw [← hsn] at hn ⊢
      obtain ⟨st, gm⟩ := sn
      obtain ⟨RB, hRB⟩ : ∃ RB, RB = w2.heap.size := ⟨_, rfl⟩
      have hb3 : Below w2.heap.size w2 (w2.alloc (.cells #[.int .i64 0, .bool false, .slice none 0 0, .int .i64 0] 66)) := (Below.refl _ _).alloc (Nat.le_refl _) _
      have k3 : Blk (w2.alloc (.cells #[.int .i64 0, .bool false, .slice none 0 0, .int .i64 0] 66)) RB 66 #[.int .i64 0, .bool false, .slice none 0 0, .int .i64 0] := by rw [hRB]; exact Blk.new _ _ _
      have hb24 := hb3.trans (hb4.mono hb3.size)
      have kr4 := k3.below hb4
      have H4 := Lib.hid (And.intro hb24 (And.intro kr4 (And.intro hn hsn)))
      have hr4 := kr4.lt
      have hRB1 : B + 1 + 1 < RB := by rw [hRB]; exact hlt
      rw [← hRB]
      clear hb3 k3 hb24 kr4 hn hsn hb4 HNW hRB
      go_wp2_with fail
      obtain ⟨SB, hSB⟩ : ∃ SB, SB = w4.heap.size := ⟨_, rfl⟩
      obtain ⟨w5, hw5⟩ : ∃ w5, w5 = w4.alloc (.cells #[.int .u64 st, .int .u64 gm] 87) := ⟨_, rfl⟩
      rw [← hSB, ← hw5]
      have hb45 : Below w4.heap.size w4 w5 := by rw [hw5]; exact (Below.refl _ _).alloc (Nat.le_refl _) _
      have ks5 : Blk w5 SB 87 #[.int .u64 st, .int .u64 gm] := by rw [hw5, hSB]; exact Blk.new _ _ _
      have hb25 := H4.out.1.trans (hb45.mono H4.out.1.size)
      have HI0 := Lib.hid (show RI g n sd many xk ga gb gao gn gc eb B RB SB many.toNat st gm 0 w w5 from
        ⟨H2.out.1.trans (hb25.mono H2.out.1.size), H2.out.2.1.below hb25, H2.out.2.2.1.below hb25, H2.out.2.2.2.below hb25, H4.out.2.1.below hb45, ks5, H4.out.2.2.1, by rw [← H4.out.2.2.2], by omega, Int.le_refl _, hRB1, by omega, by omega⟩)
      clear hw5 hb45 ks5 hb25 hSB hr4
      go_loopg [13] many.toNat (fun f sv wr => ∃ (sb : Nat) (st gm r : Int), sv = .pointer (some ⟨sb, 0, none⟩) ∧ RowKit.Hid (RI g n sd many xk ga gb gao gn gc eb B RB sb f st gm r w wr))
      case atStart => exact ⟨SB, st, gm, 0, rfl, HI0⟩
      case round =>
        obtain ⟨sb, sx, gx, r, rfl, HI⟩ := hrel
        have q0 : wr.cell? ⟨RB, 0, none⟩ = some (.int .i64 r) := HI.out.kq.cell 0
        have hsum := HI.out.sum
        have hr0 := HI.out.r0
        rcases Nat.eq_zero_or_pos gk with hz | hz
        · have dr : decide (r < many) = false := decide_eq_false (by omega)
          have hrm : ¬ r < many := by omega
          have hkq := HI.out.kq
          have hkr := HI.out.kr
          have q1 : wr.cell? ⟨RB, 1, none⟩ = some (.bool false) := hkq.cell 1
          have q2 : wr.cell? ⟨RB, 2, none⟩ = some (.slice none 0 0) := hkq.cell 2
          have q3 : wr.cell? ⟨RB, 3, none⟩ = some (.int .i64 0) := hkq.cell 3
          have r0 : wr.cell? ⟨B + 1 + 1, 0, none⟩ = some (.int .i64 0) := hkr.cell 0
          have r1 : wr.cell? ⟨B + 1 + 1, 1, none⟩ = some (.bool false) := hkr.cell 1
          have r2 : wr.cell? ⟨B + 1 + 1, 2, none⟩ = some (.slice none 0 0) := hkr.cell 2
          have r3 : wr.cell? ⟨B + 1 + 1, 3, none⟩ = some (.int .i64 0) := hkr.cell 3
          have f0 := hkr.froz 0
          have f1 := hkr.froz 1
          have f2 := hkr.froz 2
          have f3 := hkr.froz 3
          have HE := Lib.hid (show runR g n sd many = .ok (r, none) by rw [HP.out, ← HI.out.same, hz]; rfl)
          clear hkq hkr hz
          go_wp2_with fail
          refine bodyPost_ret (v := .tuple #[.agg #[.int .i64 r, .bool false, .slice none 0 0, .int .i64 0], .nilIface]) (by simp [results, Tryz.results98, go_sem, r0, r1, r2, r3]) rfl ⟨?_, .inr (.inl ⟨r, HE.out, by unfold near at hmany; unfold i64ok; omega, rfl⟩)⟩
          have h := HI.out.below
          rw [HBB.out] at h
          rw [HBB.out]
          exact (((h.setCell (by simp; omega) _).setCell (by simp; omega) _).setCell (by simp; omega) _).setCell (by simp; omega) _
        · obtain ⟨f, hf⟩ : ∃ f, gk = f + 1 := ⟨gk - 1, by omega⟩
          have dr : decide (r < many) = true := decide_eq_true (by omega)
          have hrm : r < many := by omega
          have s0 : wr.cell? ⟨sb, 0, none⟩ = some (.int .u64 sx) := HI.out.ks.cell 0
          have s1 : wr.cell? ⟨sb, 1, none⟩ = some (.int .u64 gx) := HI.out.ks.cell 1
          have HSP := Lib.hid (split_any sx gx HI.out.ok wr)
          go_wp2_with fail
          refine HSP.out.mono ?_
          clear HSP
          rintro e w6 ⟨rfl, hb6⟩
          obtain ⟨⟨lst, lgm⟩, hlf⟩ : ∃ s, s = (Seed.mk sx gx).left := ⟨_, rfl⟩
          obtain ⟨⟨ost, ogm⟩, how⟩ : ∃ s, s = (Seed.mk sx gx).own := ⟨_, rfl⟩
          rw [← hlf, ← how]
          have ks6 := HI.out.ks.below hb6
          have kq6 := HI.out.kq.below hb6
          have hsb6 : sb < w6.heap.size := ks6.lt
          have hrb6 : RB < w6.heap.size := kq6.lt
          have t0 : w6.cell? ⟨sb, 0, none⟩ = some (.int .u64 sx) := ks6.cell 0
          have t1 : w6.cell? ⟨sb, 1, none⟩ = some (.int .u64 gx) := ks6.cell 1
          have tf0 := ks6.froz 0
          have tf1 := ks6.froz 1
          have p0 : w6.cell? ⟨RB, 0, none⟩ = some (.int .i64 r) := kq6.cell 0
          have pf0 := kq6.froz 0
          have hne := HI.out.rs
          have hsB : B + 1 + 1 < sb := HI.out.sB
          have kg6 := HI.out.kg.below hb6
          have g0 : w6.cell? ⟨B, 0, none⟩ = some (.int .i64 xk) := kg6.cell 0
          have g1 : w6.cell? ⟨B, 1, none⟩ = some (.int .i64 ga) := kg6.cell 1
          have g2 : w6.cell? ⟨B, 2, none⟩ = some (.int .i64 gb) := kg6.cell 2
          have g3 : w6.cell? ⟨B, 3, none⟩ = some (.slice gao gn gc) := kg6.cell 3
          have hBl : B < w6.heap.size := kg6.lt
          obtain ⟨w8, hw8⟩ : ∃ w8, w8 = ((((w6.setCell ⟨sb, 0, none⟩ (.int .u64 lst)).setCell ⟨sb, 1, none⟩ (.int .u64 lgm)).setCell ⟨RB, 0, none⟩ (.int .i64 (r + 1))).alloc (.cells #[.int .u64 lst, .int .u64 lgm] 87)).alloc (.cells #[.int .u64 ost, .int .u64 ogm] 87) := ⟨_, rfl⟩
          have hbw6 := HI.out.below.trans (hb6.mono HI.out.below.size)
          have hbw8 : Below w.heap.size w w8 := by
            rw [hw8]
            have h := hbw6
            have hz := hbw6.size
            rw [HBB.out] at h hz ⊢
            exact (((((h.setCell (by simp; omega) _).setCell (by simp; omega) _).setCell (by simp; omega) _).alloc (by simp [World.setCell]; omega) _).alloc (by simp [World.setCell]; omega) _)
          have kg8 : Blk w8 B 28 #[.int .i64 xk, .int .i64 ga, .int .i64 gb, .slice gao gn gc] := by rw [hw8]; exact ((((kg6.other sb 0 (by omega) _).other sb 1 (by omega) _).other RB 0 (by omega) _).alloc _).alloc _
          have ke8 : Blk w8 (B + 1) 41 #[.int .i64 7, .int .i64 0, .slice (some ⟨eb, 0, none⟩) 2 2] := by rw [hw8]; exact (((((HI.out.ke.below hb6).other sb 0 (by omega) _).other sb 1 (by omega) _).other RB 0 (by omega) _).alloc _).alloc _
          have kr8 : Blk w8 (B + 1 + 1) 66 #[.int .i64 0, .bool false, .slice none 0 0, .int .i64 0] := by rw [hw8]; exact (((((HI.out.kr.below hb6).other sb 0 (by omega) _).other sb 1 (by omega) _).other RB 0 (by omega) _).alloc _).alloc _
          have ks8 : Blk w8 sb 87 #[.int .u64 lst, .int .u64 lgm] := by rw [hw8]; exact ((((ks6.set 0 _).set 1 _).other RB 0 (by omega) _).alloc _).alloc _
          have kq8 : Blk w8 RB 66 #[.int .i64 (r + 1), .bool false, .slice none 0 0, .int .i64 0] := by rw [hw8]; exact ((((kq6.other sb 0 (by omega) _).other sb 1 (by omega) _).set 0 _).alloc _).alloc _
          have HDR := Lib.hid (draw_any g v HV.out.2.2.2 ost ogm (by rw [how]; exact Seed.own_ok _) w8 (HV.out.1.on hbw8))
          rw [HSH.out, hw8] at HDR
          have H8 := Lib.hid (And.intro hbw8 (And.intro kg8 (And.intro ke8 (And.intro kr8 (And.intro ks8 kq8)))))
          have HW8 := Lib.hid hw8
          have H6 := Lib.hid (And.intro hlf how)
          clear hb6 hlf how s0 s1 q0 ks6 kq6 kg6 hw8 hbw6 hbw8 kg8 ke8 kr8 ks8 kq8
          go_wp2_with fail
          refine HDR.out.mono ?_
          clear HDR
          rintro e w9 ⟨hb9, u, rfl, hown9⟩
          rw [← HW8.out] at hb9
          replace hown9 := hown9.mono (base' := 0) (Nat.zero_le _)
          obtain ⟨uo, uc, rfl⟩ := owns_shape hown9
          obtain ⟨l, hl⟩ : ∃ l, l = draw g ⟨ost, ogm⟩ := ⟨_, rfl⟩
          rw [← hl] at hown9 ⊢
          have hll : l.length ≤ maxLen := owns_len hown9
          have hbw9 := H8.out.1.trans (hb9.mono H8.out.1.size)
          have kg9 := H8.out.2.1.below hb9
          have ke9 := H8.out.2.2.1.below hb9
          have a0 : w9.cell? ⟨B, 0, none⟩ = some (.int .i64 xk) := kg9.cell 0
          have a1 : w9.cell? ⟨B, 1, none⟩ = some (.int .i64 ga) := kg9.cell 1
          have a2 : w9.cell? ⟨B, 2, none⟩ = some (.int .i64 gb) := kg9.cell 2
          have a3 : w9.cell? ⟨B, 3, none⟩ = some (.slice gao gn gc) := kg9.cell 3
          have b0 : w9.cell? ⟨B + 1, 0, none⟩ = some (.int .i64 7) := ke9.cell 0
          have b1 : w9.cell? ⟨B + 1, 1, none⟩ = some (.int .i64 0) := ke9.cell 1
          have b2 : w9.cell? ⟨B + 1, 2, none⟩ = some (.slice (some ⟨eb, 0, none⟩) 2 2) := ke9.cell 2
          have HWK := Lib.hid (walk_any g v HV.out.2.2.2 n eb l uo uc hll w9 (HV.out.2.1.on hbw9) ((show Blk w eb _ _ from HV.out.2.2.1).below hbw9) (HV.out.1.on hbw9) (IntsAt.of_owns hown9))
          rw [HSH.out] at HWK
          have HZ9 := Lib.hid (And.intro (H8.out.2.2.2.2.2.below hb9).lt (H8.out.2.2.2.1.below hb9).lt)
          have H9 := Lib.hid (And.intro hbw9 (And.intro kg9 (And.intro ke9 (And.intro (H8.out.2.2.2.1.below hb9) (And.intro (H8.out.2.2.2.2.1.below hb9) (And.intro (H8.out.2.2.2.2.2.below hb9) hl))))))
          clear hb9 hown9 hbw9 kg9 ke9 hl g0 g1 g2 g3 t0 t1 tf0 tf1 p0 pf0
          go_wp2_with fail
          refine HWK.out.mono ?_
          clear HWK
          rintro e w10 ⟨hb10, hhow⟩
          have hbw10 := H9.out.1.trans (hb10.mono H9.out.1.size)
          have kg10 := H9.out.2.1.below hb10
          have ke10 := H9.out.2.2.1.below hb10
          have kr10 := H9.out.2.2.2.1.below hb10
          have ks10 := H9.out.2.2.2.2.1.below hb10
          have kq10 := H9.out.2.2.2.2.2.1.below hb10
          clear a0 a1 a2 a3 b0 b1 b2
          have HLL := Lib.hid (show (Seed.mk sx gx).own = ⟨ost, ogm⟩ from H6.out.2.symm)
          have HSM := Lib.hid HI.out.same
          rw [hf] at HSM
          rcases hhow with ⟨cc, hx, rfl⟩ | ⟨x, hx, hbd, rfl⟩ | ⟨x, po, pc, hx, hbd, rfl, hat, hl6, ht1, hk64, hlow⟩
          · obtain ⟨x, hx2⟩ := draw_replay HV.out.2.2.2 ⟨ost, ogm⟩
            rw [← H9.out.2.2.2.2.2.2, hx] at hx2
            cases hx2
          · have hne2 := eql_errno 2
            have hns := neq_same2
            have s0 : w10.cell? ⟨sb, 0, none⟩ = some (.int .u64 lst) := ks10.cell 0
            have s1 : w10.cell? ⟨sb, 1, none⟩ = some (.int .u64 lgm) := ks10.cell 1
            have HN := Lib.hid (show runF g n f ⟨lst, lgm⟩ (r + 1) = runF g n many.toNat (Seed.new sd) 0 by
              rw [← HSM.out, runF_ok (by rw [HLL.out, ← H9.out.2.2.2.2.2.2]; exact hbd), ← H6.out.1])
            have H10 := Lib.hid (And.intro hbw10 (And.intro kg10 (And.intro ke10 (And.intro kr10 (And.intro ks10 kq10)))))
            have hq10 := kq10.lt
            have hr10 := kr10.lt
            clear hbw10 kg10 ke10 kr10 ks10 kq10 hx hbd hb10
            go_wp2_with fail
            go_roundg f
            case rel => exact ⟨w10.heap.size, lst, lgm, r + 1, rfl, Lib.hid ⟨H10.out.1.alloc H10.out.1.size _, H10.out.2.1.alloc _, H10.out.2.2.1.alloc _, H10.out.2.2.2.1.alloc _, H10.out.2.2.2.2.2.alloc _, Blk.new _ _ _, by rw [H6.out.1]; exact Seed.left_ok HI.out.ok, HN.out, by omega, by omega, hRB1, by omega, by omega⟩⟩
            case measure => omega
          · have hne0 := eql_nil
            obtain ⟨wk, hwk⟩ : ∃ wk, wk = walk g n l := ⟨_, rfl⟩
            rw [← hwk] at hl6 ht1 hk64 hat
            rw [← hwk]
            obtain ⟨lm, kk⟩ := wk
            have HE := Lib.hid (show runR g n sd many = .ok (r + 1, some (lm, kk)) by
              rw [HP.out, ← HSM.out, runF_bad (by rw [HLL.out, ← H9.out.2.2.2.2.2.2]; exact hbd), HLL.out, ← H9.out.2.2.2.2.2.2, ← hwk])
            have HX := Lib.hid (And.intro hl6 (And.intro ht1 (And.intro hk64 (And.intro hat (And.intro hbw10 hlow)))))
            have s0 : w10.cell? ⟨RB, 0, none⟩ = some (.int .i64 (r + 1)) := kq10.cell 0
            have s1 : w10.cell? ⟨RB, 1, none⟩ = some (.bool false) := kq10.cell 1
            have s2 : w10.cell? ⟨RB, 2, none⟩ = some (.slice none 0 0) := kq10.cell 2
            have s3 : w10.cell? ⟨RB, 3, none⟩ = some (.int .i64 0) := kq10.cell 3
            have sf1 := kq10.froz 1
            have sf2 := kq10.froz 2
            have sf3 := kq10.froz 3
            have q0 : w10.cell? ⟨B + 1 + 1, 0, none⟩ = some (.int .i64 0) := kr10.cell 0
            have q1 : w10.cell? ⟨B + 1 + 1, 1, none⟩ = some (.bool false) := kr10.cell 1
            have q2 : w10.cell? ⟨B + 1 + 1, 2, none⟩ = some (.slice none 0 0) := kr10.cell 2
            have q3 : w10.cell? ⟨B + 1 + 1, 3, none⟩ = some (.int .i64 0) := kr10.cell 3
            have qf0 := kr10.froz 0
            have qf1 := kr10.froz 1
            have qf2 := kr10.froz 2
            have qf3 := kr10.froz 3
            have hpz : IntsAt .i64 w10 po lm := hat
            clear hbw10 kg10 ke10 kr10 ks10 kq10 hx hbd hb10 hwk hl6 ht1 hk64 hat hpz hlow
            go_wp2_with fail
            have h := HX.out.2.2.2.2.1
            refine bodyPost_ret (v := .tuple #[.agg #[.int .i64 (r + 1), .bool true, .slice po lm.length pc, .int .i64 kk], .nilIface]) (by simp [results, Tryz.results98, go_sem, q0, q1, q2, q3]) rfl ⟨?_, .inr (.inr ⟨r + 1, lm, kk, po, pc, HE.out, by unfold near at hmany; unfold i64ok; omega, HX.out.2.2.1, HX.out.1, HX.out.2.1, rfl, ?_, fun q o e => Nat.le_trans H9.out.1.size (HX.out.2.2.2.2.2 q o e)⟩)⟩
            · rw [HBB.out] at h
              rw [HBB.out]
              exact ((((((h.setCell (by simp; omega) _).setCell (by simp; omega) _).setCell (by simp; omega) _).setCell (by simp; omega) _).setCell (by simp; omega) _).setCell (by simp; omega) _).setCell (by simp; omega) _
            · have hlow := HX.out.2.2.2.2.2
              have hz9 : RB < w9.heap.size := HZ9.out.1
              have hz8 : B + 1 + 1 < w9.heap.size := HZ9.out.2
              exact ints_other (ints_other (ints_other (ints_other (ints_other (ints_other (ints_other HX.out.2.2.2.1 (fun q o e => by have := hlow q o e; omega)) (fun q o e => by have := hlow q o e; omega)) (fun q o e => by have := hlow q o e; omega)) (fun q o e => by have := hlow q o e; omega)) (fun q o e => by have := hlow q o e; omega)) (fun q o e => by have := hlow q o e; omega)) (fun q o e => by have := hlow q o e; omega)
end Go.Proofs.YtalbllijahiiiaaGreatDoor
