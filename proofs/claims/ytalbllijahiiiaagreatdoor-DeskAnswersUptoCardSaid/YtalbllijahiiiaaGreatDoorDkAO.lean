/- runs.Run. strings.SplitSeq: the function that it hands back; a range over a function, entered and left; one round. strings.SplitSeq$1: it hands over a text's pieces. -/
import Derived.Test.YtalbllijahiiiaaGreatDoorDkAN
import Derived.Test.YtalbllijahiiiaaGreatDoorDkAJ
import Derived.RangeFuncNested
import Derived.RangeFuncCalls
import Derived.RangeFuncLeaves
import Derived.Shelf.Abstract
import Derived.OwnWalkIn
import Derived.TacticsInMore
import Derived.LoopNIn
import Derived.LoopIn
import Derived.Lib.IndexLaws
section
namespace Go.Proofs.YtalbllijahiiiaaGreatDoor
open Go.RowKit Go.Mine Go.Mine.Desk

structure RI (g : G) (n sd many : Int) (xk ga gb : Int) (gao : Option Addr) (gn gc eb B rb sb : Nat) (f : Nat) (st gm r : Int) (w wr : World) : Prop where
  below : Below w.heap.size w wr
  kg : Blk wr B 28 #[.int .i64 xk, .int .i64 ga, .int .i64 gb, .slice gao gn gc]
  ke : Blk wr (B + 1) 41 #[.int .i64 7, .int .i64 0, .slice (some ⟨eb, 0, none⟩) 2 2]
  kr : Blk wr (B + 1 + 1) 66 #[.int .i64 0, .bool false, .slice none 0 0, .int .i64 0]
  kq : Blk wr rb 66 #[.int .i64 r, .bool false, .slice none 0 0, .int .i64 0]
  ks : Blk wr sb 87 #[.int .u64 st, .int .u64 gm]
  ok : (Seed.mk st gm).ok
  same : runF g n f ⟨st, gm⟩ r = runF g n many.toNat (Seed.new sd) 0
  sum : r + f = many
  r0 : 0 ≤ r
  rB : B + 2 < rb
  sB : B + 2 < sb
  rs : rb ≠ sb
theorem neq_same2 (w : World) : (binOp BinOp.neq 100 (.iface 36 (.int .i64 2)) (.iface 36 (.int .i64 2))).run Tryz.prog w = .ok (.bool false) w := by kernel_rfl
theorem eql_nil (w : World) : (binOp BinOp.eql 100 .nilIface .nilIface).run Tryz.prog w = .ok (.bool true) w := by kernel_rfl
theorem eql_errno (c : Int) (w : World) : (binOp BinOp.eql 100 (.iface 36 (.int .i64 c)) .nilIface).run Tryz.prog w = .ok (.bool false) w := by kernel_rfl
theorem ints_other {w : World} {po : Option Addr} {xs : List Int} {b i : Nat} {v : Value} (h : IntsAt .i64 w po xs) (hne : ∀ q o, po = some ⟨q, o, none⟩ → q ≠ b) : IntsAt .i64 (w.setCell ⟨b, i, none⟩ v) po xs := fun j hj => by
  obtain ⟨q, o, h1, h2⟩ := h j hj
  refine ⟨q, o, h1, ?_⟩
  rw [World.cell?_of_block (w := w) (Below.heap_setCell w ⟨b, i, none⟩ v q (hne q o h1))]
  exact h2
set_option maxRecDepth 100000 in
set_option maxHeartbeats 4000000 in
theorem run_any (g : G) (v : Value) (hr : g.right) (n : Int) (eb : Nat) (sd many : Int) (hmany : near many) (w : World) (hg : Gl w) (he : ExprAt w eb n) (hv : GenAt w v g) :
    Calls Tryz.prog 98 #[v, wholeE eb, .int .i64 sd, .int .i64 many] w (RunPost g n sd many w) := by
  obtain ⟨xk, ga, gb, gao, gn, gc, hsh⟩ := hv.shape
  have hnn := neq_nil
  obtain ⟨w0, hw0⟩ : ∃ w0, w0 = ((w.alloc (.cells #[.int .i64 xk, .int .i64 ga, .int .i64 gb, .slice gao gn gc] 28)).alloc (.cells #[.int .i64 7, .int .i64 0, .slice (some ⟨eb, 0, none⟩) 2 2] 41)).alloc (.cells #[.int .i64 0, .bool false, .slice none 0 0, .int .i64 0] 66) := ⟨_, rfl⟩
  have hb0 : Below w.heap.size w w0 := by rw [hw0]; exact (((Below.refl w.heap.size w).alloc (Nat.le_refl _) _).alloc (by simp) _).alloc (by simp; omega) _
  have k0 : Blk w0 w.heap.size 28 #[.int .i64 xk, .int .i64 ga, .int .i64 gb, .slice gao gn gc] := by rw [hw0]; exact ((Blk.new _ _ _).alloc _).alloc _
  have k1 : Blk w0 (w.heap.size + 1) 41 #[.int .i64 7, .int .i64 0, .slice (some ⟨eb, 0, none⟩) 2 2] := by rw [hw0]; have := (Blk.new (w.alloc (.cells #[.int .i64 xk, .int .i64 ga, .int .i64 gb, .slice gao gn gc] 28)) 41 #[.int .i64 7, .int .i64 0, .slice (some ⟨eb, 0, none⟩) 2 2]).alloc (.cells #[.int .i64 0, .bool false, .slice none 0 0, .int .i64 0] 66); simpa using this
  have k2 : Blk w0 (w.heap.size + 2) 66 #[.int .i64 0, .bool false, .slice none 0 0, .int .i64 0] := by rw [hw0]; have := Blk.new ((w.alloc (.cells #[.int .i64 xk, .int .i64 ga, .int .i64 gb, .slice gao gn gc] 28)).alloc (.cells #[.int .i64 7, .int .i64 0, .slice (some ⟨eb, 0, none⟩) 2 2] 41)) 66 #[.int .i64 0, .bool false, .slice none 0 0, .int .i64 0]; simpa using this
  obtain ⟨B, hB⟩ : ∃ B, w.heap.size = B := ⟨_, rfl⟩
  rw [hB] at k0 k1 k2
  rw [show B + 2 = B + 1 + 1 from rfl] at k2
  have HC0 := Lib.hid (checkR_any g v hr w0 (hv.on hb0))
  have HC1 := Lib.hid (fun (wx : World) (hbx : Below w0.heap.size w0 wx) => expr_check n eb wx ((hg.on hb0).on hbx) (((show Blk w eb _ _ from he).below hb0).below hbx))
  have HK := Lib.hid (And.intro hb0 (And.intro k0 (And.intro k1 k2)))
  have HW := Lib.hid hw0
  have HV := Lib.hid (And.intro hv (And.intro hg (And.intro he hr)))
  have HSH := Lib.hid hsh
  have HBB := Lib.hid hB
  rw [hsh] at HC0 ⊢
  have c0 : w0.cell? ⟨B, 0, none⟩ = some (.int .i64 xk) := k0.cell 0
  have c1 : w0.cell? ⟨B, 1, none⟩ = some (.int .i64 ga) := k0.cell 1
  have c2 : w0.cell? ⟨B, 2, none⟩ = some (.int .i64 gb) := k0.cell 2
  have c3 : w0.cell? ⟨B, 3, none⟩ = some (.slice gao gn gc) := k0.cell 3
  rw [hw0] at HC0 c0 c1 c2 c3
  clear hw0 hb0 k0 k1 k2 hv hg he hr hsh
  go_enter Tryz.func98, Tryz.ntmps98
  go_wp2_with fail
  refine HC0.out.mono ?_
  clear HC0
  rintro e w1 ⟨rfl, hb1⟩
  rw [← HW.out] at hb1
  have HC1a := Lib.hid (HC1.out w1 hb1)
  have k1 := HK.out.2.2.1.below hb1
  have e0 : w1.cell? ⟨B + 1, 0, none⟩ = some (.int .i64 7) := k1.cell 0
  have e1 : w1.cell? ⟨B + 1, 1, none⟩ = some (.int .i64 0) := k1.cell 1
  have e2 : w1.cell? ⟨B + 1, 2, none⟩ = some (.slice (some ⟨eb, 0, none⟩) 2 2) := k1.cell 2
  have HB1 := Lib.hid hb1
  clear hb1 k1 c0 c1 c2 c3
  go_wp2_with fail
  refine HC1a.out.mono ?_
  clear HC1a
  rintro e w2 ⟨rfl, hb2⟩
  have hb2' := HB1.out.trans (hb2.mono HB1.out.size)
  have k0 := HK.out.2.1.below hb2'
  have k1 := HK.out.2.2.1.below hb2'
  have k2 := HK.out.2.2.2.below hb2'
  have hbw := HK.out.1.trans (hb2'.mono HK.out.1.size)
  have hlt := k2.lt
  have H2 := Lib.hid (And.intro hbw (And.intro k0 (And.intro k1 k2)))
  have r0 : w2.cell? ⟨B + 1 + 1, 0, none⟩ = some (.int .i64 0) := k2.cell 0
  have r1 : w2.cell? ⟨B + 1 + 1, 1, none⟩ = some (.bool false) := k2.cell 1
  have r2 : w2.cell? ⟨B + 1 + 1, 2, none⟩ = some (.slice none 0 0) := k2.cell 2
  have r3 : w2.cell? ⟨B + 1 + 1, 3, none⟩ = some (.int .i64 0) := k2.cell 3
  have f0 := k2.froz 0
  have f1 := k2.froz 1
  have f2 := k2.froz 2
  have f3 := k2.froz 3
  clear hb2 hb2' k0 k1 k2 e0 e1 e2 hbw
  by_cases h1 : many < 0
  · have d1 : decide (many < 0) = true := decide_eq_true h1
    have HP := Lib.hid (show runR g n sd many = .error 1 by unfold runR; rw [if_pos (.inl h1)])
    go_wp2_with fail
    refine bodyPost_ret (v := .tuple #[.agg #[.int .i64 0, .bool false, .slice none 0 0, .int .i64 0], .iface 36 (.int .i64 1)]) (by simp [results, Tryz.results98, go_sem, r0, r1, r2, r3]) rfl ⟨?_, .inl ⟨1, HP.out, rfl⟩⟩
    have h := H2.out.1
    rw [HBB.out] at h
    rw [HBB.out]
    exact (((h.setCell (by simp; omega) _).setCell (by simp; omega) _).setCell (by simp; omega) _).setCell (by simp; omega) _
  · have d1 : decide (many < 0) = false := decide_eq_false h1
    by_cases h2 : 50 < many
    · have d2 : decide (50 < many) = true := decide_eq_true h2
      have HP := Lib.hid (show runR g n sd many = .error 1 by unfold runR; rw [if_pos (.inr h2)])
      go_wp2_with fail
      refine bodyPost_ret (v := .tuple #[.agg #[.int .i64 0, .bool false, .slice none 0 0, .int .i64 0], .iface 36 (.int .i64 1)]) (by simp [results, Tryz.results98, go_sem, r0, r1, r2, r3]) rfl ⟨?_, .inl ⟨1, HP.out, rfl⟩⟩
      have h := H2.out.1
      rw [HBB.out] at h
      rw [HBB.out]
      exact (((h.setCell (by simp; omega) _).setCell (by simp; omega) _).setCell (by simp; omega) _).setCell (by simp; omega) _
    · have d2 : decide (50 < many) = false := decide_eq_false h2
      have HP := Lib.hid (show runR g n sd many = .ok (runF g n many.toNat (Seed.new sd) 0) by unfold runR; rw [if_neg (by omega)])
      have HNW := Lib.hid (fun wx => new_any sd wx)
      clear r0 r1 r2 r3 f0 f1 f2 f3
      go_wp2_with fail
      refine (HNW.out _).mono ?_
      rintro e w4 ⟨rfl, hb4⟩
      have hn := Seed.new_ok sd
      obtain ⟨sn, hsn⟩ : ∃ sn, sn = Seed.new sd := ⟨_, rfl⟩
      rw [← hsn] at hn ⊢
      obtain ⟨st, gm⟩ := sn
      obtain ⟨RB, hRB⟩ : ∃ RB, RB = w2.heap.size := ⟨_, rfl⟩
      have hb3 : Below w2.heap.size w2 (w2.alloc (.cells #[.int .i64 0, .bool false, .slice none 0 0, .int .i64 0] 66)) := (Below.refl _ _).alloc (Nat.le_refl _) _
      have k3 : Blk (w2.alloc (.cells #[.int .i64 0, .bool false, .slice none 0 0, .int .i64 0] 66)) RB 66 #[.int .i64 0, .bool false, .slice none 0 0, .int .i64 0] := by rw [hRB]; exact Blk.new _ _ _
      have hb24 := hb3.trans (hb4.mono hb3.size)
      have kr4 := k3.below hb4
      have H4 := Lib.hid (And.intro hb24 (And.intro kr4 (And.intro hn hsn)))
      have hr4 := kr4.lt
      have hRB1 : B + 1 + 1 < RB := by rw [hRB]; exact hlt
      rw [← hRB]
      clear hb3 k3 hb24 kr4 hn hsn hb4 HNW hRB
      go_wp2_with fail
      obtain ⟨SB, hSB⟩ : ∃ SB, SB = w4.heap.size := ⟨_, rfl⟩
      obtain ⟨w5, hw5⟩ : ∃ w5, w5 = w4.alloc (.cells #[.int .u64 st, .int .u64 gm] 87) := ⟨_, rfl⟩
      rw [← hSB, ← hw5]
      have hb45 : Below w4.heap.size w4 w5 := by rw [hw5]; exact (Below.refl _ _).alloc (Nat.le_refl _) _
      have ks5 : Blk w5 SB 87 #[.int .u64 st, .int .u64 gm] := by rw [hw5, hSB]; exact Blk.new _ _ _
      have hb25 := H4.out.1.trans (hb45.mono H4.out.1.size)
      have HI0 := Lib.hid (show RI g n sd many xk ga gb gao gn gc eb B RB SB many.toNat st gm 0 w w5 from
        ⟨H2.out.1.trans (hb25.mono H2.out.1.size), H2.out.2.1.below hb25, H2.out.2.2.1.below hb25, H2.out.2.2.2.below hb25, H4.out.2.1.below hb45, ks5, H4.out.2.2.1, by rw [← H4.out.2.2.2], by omega, Int.le_refl _, hRB1, by omega, by omega⟩)
      clear hw5 hb45 ks5 hb25 hSB hr4
      go_loopg [13] many.toNat (fun f sv wr => ∃ (sb : Nat) (st gm r : Int), sv = .pointer (some ⟨sb, 0, none⟩) ∧ RowKit.Hid (RI g n sd many xk ga gb gao gn gc eb B RB sb f st gm r w wr))
      case atStart => exact ⟨SB, st, gm, 0, rfl, HI0⟩
      case round =>
        obtain ⟨sb, sx, gx, r, rfl, HI⟩ := hrel
        have q0 : wr.cell? ⟨RB, 0, none⟩ = some (.int .i64 r) := HI.out.kq.cell 0
        have hsum := HI.out.sum
        have hr0 := HI.out.r0
        rcases Nat.eq_zero_or_pos gk with hz | hz
        · have dr : decide (r < many) = false := decide_eq_false (by omega)
          have hrm : ¬ r < many := by omega
          have hkq := HI.out.kq
          have hkr := HI.out.kr
          have q1 : wr.cell? ⟨RB, 1, none⟩ = some (.bool false) := hkq.cell 1
          have q2 : wr.cell? ⟨RB, 2, none⟩ = some (.slice none 0 0) := hkq.cell 2
          have q3 : wr.cell? ⟨RB, 3, none⟩ = some (.int .i64 0) := hkq.cell 3
          have r0 : wr.cell? ⟨B + 1 + 1, 0, none⟩ = some (.int .i64 0) := hkr.cell 0
          have r1 : wr.cell? ⟨B + 1 + 1, 1, none⟩ = some (.bool false) := hkr.cell 1
          have r2 : wr.cell? ⟨B + 1 + 1, 2, none⟩ = some (.slice none 0 0) := hkr.cell 2
          have r3 : wr.cell? ⟨B + 1 + 1, 3, none⟩ = some (.int .i64 0) := hkr.cell 3
          have f0 := hkr.froz 0
          have f1 := hkr.froz 1
          have f2 := hkr.froz 2
          have f3 := hkr.froz 3
          have HE := Lib.hid (show runR g n sd many = .ok (r, none) by rw [HP.out, ← HI.out.same, hz]; rfl)
          clear hkq hkr hz
          go_wp2_with fail
          refine bodyPost_ret (v := .tuple #[.agg #[.int .i64 r, .bool false, .slice none 0 0, .int .i64 0], .nilIface]) (by simp [results, Tryz.results98, go_sem, r0, r1, r2, r3]) rfl ⟨?_, .inr (.inl ⟨r, HE.out, by unfold near at hmany; unfold i64ok; omega, rfl⟩)⟩
          have h := HI.out.below
          rw [HBB.out] at h
          rw [HBB.out]
          exact (((h.setCell (by simp; omega) _).setCell (by simp; omega) _).setCell (by simp; omega) _).setCell (by simp; omega) _
        · obtain ⟨f, hf⟩ : ∃ f, gk = f + 1 := ⟨gk - 1, by omega⟩
          have dr : decide (r < many) = true := decide_eq_true (by omega)
          have hrm : r < many := by omega
          have s0 : wr.cell? ⟨sb, 0, none⟩ = some (.int .u64 sx) := HI.out.ks.cell 0
          have s1 : wr.cell? ⟨sb, 1, none⟩ = some (.int .u64 gx) := HI.out.ks.cell 1
          have HSP := Lib.hid (split_any sx gx HI.out.ok wr)
          go_wp2_with fail
          refine HSP.out.mono ?_
          clear HSP
          rintro e w6 ⟨rfl, hb6⟩
          obtain ⟨⟨lst, lgm⟩, hlf⟩ : ∃ s, s = (Seed.mk sx gx).left := ⟨_, rfl⟩
          obtain ⟨⟨ost, ogm⟩, how⟩ : ∃ s, s = (Seed.mk sx gx).own := ⟨_, rfl⟩
          rw [← hlf, ← how]
          have ks6 := HI.out.ks.below hb6
          have kq6 := HI.out.kq.below hb6
          have hsb6 : sb < w6.heap.size := ks6.lt
          have hrb6 : RB < w6.heap.size := kq6.lt
          have t0 : w6.cell? ⟨sb, 0, none⟩ = some (.int .u64 sx) := ks6.cell 0
          have t1 : w6.cell? ⟨sb, 1, none⟩ = some (.int .u64 gx) := ks6.cell 1
          have tf0 := ks6.froz 0
          have tf1 := ks6.froz 1
          have p0 : w6.cell? ⟨RB, 0, none⟩ = some (.int .i64 r) := kq6.cell 0
          have pf0 := kq6.froz 0
          have hne := HI.out.rs
          have hsB : B + 1 + 1 < sb := HI.out.sB
          have kg6 := HI.out.kg.below hb6
          have g0 : w6.cell? ⟨B, 0, none⟩ = some (.int .i64 xk) := kg6.cell 0
          have g1 : w6.cell? ⟨B, 1, none⟩ = some (.int .i64 ga) := kg6.cell 1
          have g2 : w6.cell? ⟨B, 2, none⟩ = some (.int .i64 gb) := kg6.cell 2
          have g3 : w6.cell? ⟨B, 3, none⟩ = some (.slice gao gn gc) := kg6.cell 3
          have hBl : B < w6.heap.size := kg6.lt
          obtain ⟨w8, hw8⟩ : ∃ w8, w8 = ((((w6.setCell ⟨sb, 0, none⟩ (.int .u64 lst)).setCell ⟨sb, 1, none⟩ (.int .u64 lgm)).setCell ⟨RB, 0, none⟩ (.int .i64 (r + 1))).alloc (.cells #[.int .u64 lst, .int .u64 lgm] 87)).alloc (.cells #[.int .u64 ost, .int .u64 ogm] 87) := ⟨_, rfl⟩
          have hbw6 := HI.out.below.trans (hb6.mono HI.out.below.size)
          have hbw8 : Below w.heap.size w w8 := by
            rw [hw8]
            have h := hbw6
            have hz := hbw6.size
            rw [HBB.out] at h hz ⊢
            exact (((((h.setCell (by simp; omega) _).setCell (by simp; omega) _).setCell (by simp; omega) _).alloc (by simp [World.setCell]; omega) _).alloc (by simp [World.setCell]; omega) _)
          have kg8 : Blk w8 B 28 #[.int .i64 xk, .int .i64 ga, .int .i64 gb, .slice gao gn gc] := by rw [hw8]; exact ((((kg6.other sb 0 (by omega) _).other sb 1 (by omega) _).other RB 0 (by omega) _).alloc _).alloc _
          have ke8 : Blk w8 (B + 1) 41 #[.int .i64 7, .int .i64 0, .slice (some ⟨eb, 0, none⟩) 2 2] := by rw [hw8]; exact (((((HI.out.ke.below hb6).other sb 0 (by omega) _).other sb 1 (by omega) _).other RB 0 (by omega) _).alloc _).alloc _
          have kr8 : Blk w8 (B + 1 + 1) 66 #[.int .i64 0, .bool false, .slice none 0 0, .int .i64 0] := by rw [hw8]; exact (((((HI.out.kr.below hb6).other sb 0 (by omega) _).other sb 1 (by omega) _).other RB 0 (by omega) _).alloc _).alloc _
          have ks8 : Blk w8 sb 87 #[.int .u64 lst, .int .u64 lgm] := by rw [hw8]; exact ((((ks6.set 0 _).set 1 _).other RB 0 (by omega) _).alloc _).alloc _
          have kq8 : Blk w8 RB 66 #[.int .i64 (r + 1), .bool false, .slice none 0 0, .int .i64 0] := by rw [hw8]; exact ((((kq6.other sb 0 (by omega) _).other sb 1 (by omega) _).set 0 _).alloc _).alloc _
          have HDR := Lib.hid (draw_any g v HV.out.2.2.2 ost ogm (by rw [how]; exact Seed.own_ok _) w8 (HV.out.1.on hbw8))
          rw [HSH.out, hw8] at HDR
          have H8 := Lib.hid (And.intro hbw8 (And.intro kg8 (And.intro ke8 (And.intro kr8 (And.intro ks8 kq8)))))
          have HW8 := Lib.hid hw8
          have H6 := Lib.hid (And.intro hlf how)
          clear hb6 hlf how s0 s1 q0 ks6 kq6 kg6 hw8 hbw6 hbw8 kg8 ke8 kr8 ks8 kq8
          go_wp2_with fail
          refine HDR.out.mono ?_
          clear HDR
          rintro e w9 ⟨hb9, u, rfl, hown9⟩
          rw [← HW8.out] at hb9
          replace hown9 := hown9.mono (base' := 0) (Nat.zero_le _)
          obtain ⟨uo, uc, rfl⟩ := owns_shape hown9
          obtain ⟨l, hl⟩ : ∃ l, l = draw g ⟨ost, ogm⟩ := ⟨_, rfl⟩
          rw [← hl] at hown9 ⊢
          have hll : l.length ≤ maxLen := owns_len hown9
          have hbw9 := H8.out.1.trans (hb9.mono H8.out.1.size)
          have kg9 := H8.out.2.1.below hb9
          have ke9 := H8.out.2.2.1.below hb9
          have a0 : w9.cell? ⟨B, 0, none⟩ = some (.int .i64 xk) := kg9.cell 0
          have a1 : w9.cell? ⟨B, 1, none⟩ = some (.int .i64 ga) := kg9.cell 1
          have a2 : w9.cell? ⟨B, 2, none⟩ = some (.int .i64 gb) := kg9.cell 2
          have a3 : w9.cell? ⟨B, 3, none⟩ = some (.slice gao gn gc) := kg9.cell 3
          have b0 : w9.cell? ⟨B + 1, 0, none⟩ = some (.int .i64 7) := ke9.cell 0
          have b1 : w9.cell? ⟨B + 1, 1, none⟩ = some (.int .i64 0) := ke9.cell 1
          have b2 : w9.cell? ⟨B + 1, 2, none⟩ = some (.slice (some ⟨eb, 0, none⟩) 2 2) := ke9.cell 2
          have HWK := Lib.hid (walk_any g v HV.out.2.2.2 n eb l uo uc hll w9 (HV.out.2.1.on hbw9) ((show Blk w eb _ _ from HV.out.2.2.1).below hbw9) (HV.out.1.on hbw9) (IntsAt.of_owns hown9))
          rw [HSH.out] at HWK
          have HZ9 := Lib.hid (And.intro (H8.out.2.2.2.2.2.below hb9).lt (H8.out.2.2.2.1.below hb9).lt)
          have H9 := Lib.hid (And.intro hbw9 (And.intro kg9 (And.intro ke9 (And.intro (H8.out.2.2.2.1.below hb9) (And.intro (H8.out.2.2.2.2.1.below hb9) (And.intro (H8.out.2.2.2.2.2.below hb9) hl))))))
          clear hb9 hown9 hbw9 kg9 ke9 hl g0 g1 g2 g3 t0 t1 tf0 tf1 p0 pf0
          go_wp2_with fail
          refine HWK.out.mono ?_
          clear HWK
          rintro e w10 ⟨hb10, hhow⟩
          have hbw10 := H9.out.1.trans (hb10.mono H9.out.1.size)
          have kg10 := H9.out.2.1.below hb10
          have ke10 := H9.out.2.2.1.below hb10
          have kr10 := H9.out.2.2.2.1.below hb10
          have ks10 := H9.out.2.2.2.2.1.below hb10
          have kq10 := H9.out.2.2.2.2.2.1.below hb10
          clear a0 a1 a2 a3 b0 b1 b2
          have HLL := Lib.hid (show (Seed.mk sx gx).own = ⟨ost, ogm⟩ from H6.out.2.symm)
          have HSM := Lib.hid HI.out.same
          rw [hf] at HSM
          rcases hhow with ⟨cc, hx, rfl⟩ | ⟨x, hx, hbd, rfl⟩ | ⟨x, po, pc, hx, hbd, rfl, hat, hl6, ht1, hk64, hlow⟩
          · obtain ⟨x, hx2⟩ := draw_replay HV.out.2.2.2 ⟨ost, ogm⟩
            rw [← H9.out.2.2.2.2.2.2, hx] at hx2
            cases hx2
          · have hne2 := eql_errno 2
            have hns := neq_same2
            have s0 : w10.cell? ⟨sb, 0, none⟩ = some (.int .u64 lst) := ks10.cell 0
            have s1 : w10.cell? ⟨sb, 1, none⟩ = some (.int .u64 lgm) := ks10.cell 1
            have HN := Lib.hid (show runF g n f ⟨lst, lgm⟩ (r + 1) = runF g n many.toNat (Seed.new sd) 0 by
              rw [← HSM.out, runF_ok (by rw [HLL.out, ← H9.out.2.2.2.2.2.2]; exact hbd), ← H6.out.1])
            have H10 := Lib.hid (And.intro hbw10 (And.intro kg10 (And.intro ke10 (And.intro kr10 (And.intro ks10 kq10)))))
            have hq10 := kq10.lt
            have hr10 := kr10.lt
            clear hbw10 kg10 ke10 kr10 ks10 kq10 hx hbd hb10
            go_wp2_with fail
            go_roundg f
            case rel => exact ⟨w10.heap.size, lst, lgm, r + 1, rfl, Lib.hid ⟨H10.out.1.alloc H10.out.1.size _, H10.out.2.1.alloc _, H10.out.2.2.1.alloc _, H10.out.2.2.2.1.alloc _, H10.out.2.2.2.2.2.alloc _, Blk.new _ _ _, by rw [H6.out.1]; exact Seed.left_ok HI.out.ok, HN.out, by omega, by omega, hRB1, by omega, by omega⟩⟩
            case measure => omega
          · have hne0 := eql_nil
            obtain ⟨wk, hwk⟩ : ∃ wk, wk = walk g n l := ⟨_, rfl⟩
            rw [← hwk] at hl6 ht1 hk64 hat
            rw [← hwk]
            obtain ⟨lm, kk⟩ := wk
            have HE := Lib.hid (show runR g n sd many = .ok (r + 1, some (lm, kk)) by
              rw [HP.out, ← HSM.out, runF_bad (by rw [HLL.out, ← H9.out.2.2.2.2.2.2]; exact hbd), HLL.out, ← H9.out.2.2.2.2.2.2, ← hwk])
            have HX := Lib.hid (And.intro hl6 (And.intro ht1 (And.intro hk64 (And.intro hat (And.intro hbw10 hlow)))))
            have s0 : w10.cell? ⟨RB, 0, none⟩ = some (.int .i64 (r + 1)) := kq10.cell 0
            have s1 : w10.cell? ⟨RB, 1, none⟩ = some (.bool false) := kq10.cell 1
            have s2 : w10.cell? ⟨RB, 2, none⟩ = some (.slice none 0 0) := kq10.cell 2
            have s3 : w10.cell? ⟨RB, 3, none⟩ = some (.int .i64 0) := kq10.cell 3
            have sf1 := kq10.froz 1
            have sf2 := kq10.froz 2
            have sf3 := kq10.froz 3
            have q0 : w10.cell? ⟨B + 1 + 1, 0, none⟩ = some (.int .i64 0) := kr10.cell 0
            have q1 : w10.cell? ⟨B + 1 + 1, 1, none⟩ = some (.bool false) := kr10.cell 1
            have q2 : w10.cell? ⟨B + 1 + 1, 2, none⟩ = some (.slice none 0 0) := kr10.cell 2
            have q3 : w10.cell? ⟨B + 1 + 1, 3, none⟩ = some (.int .i64 0) := kr10.cell 3
            have qf0 := kr10.froz 0
            have qf1 := kr10.froz 1
            have qf2 := kr10.froz 2
            have qf3 := kr10.froz 3
            have hpz : IntsAt .i64 w10 po lm := hat
            clear hbw10 kg10 ke10 kr10 ks10 kq10 hx hbd hb10 hwk hl6 ht1 hk64 hat hpz hlow
            go_wp2_with fail
            have h := HX.out.2.2.2.2.1
            refine bodyPost_ret (v := .tuple #[.agg #[.int .i64 (r + 1), .bool true, .slice po lm.length pc, .int .i64 kk], .nilIface]) (by simp [results, Tryz.results98, go_sem, q0, q1, q2, q3]) rfl ⟨?_, .inr (.inr ⟨r + 1, lm, kk, po, pc, HE.out, by unfold near at hmany; unfold i64ok; omega, HX.out.2.2.1, HX.out.1, HX.out.2.1, rfl, ?_, fun q o e => Nat.le_trans H9.out.1.size (HX.out.2.2.2.2.2 q o e)⟩)⟩
            · rw [HBB.out] at h
              rw [HBB.out]
              exact ((((((h.setCell (by simp; omega) _).setCell (by simp; omega) _).setCell (by simp; omega) _).setCell (by simp; omega) _).setCell (by simp; omega) _).setCell (by simp; omega) _).setCell (by simp; omega) _
            · have hlow := HX.out.2.2.2.2.2
              have hz9 : RB < w9.heap.size := HZ9.out.1
              have hz8 : B + 1 + 1 < w9.heap.size := HZ9.out.2
              exact ints_other (ints_other (ints_other (ints_other (ints_other (ints_other (ints_other HX.out.2.2.2.1 (fun q o e => by have := hlow q o e; omega)) (fun q o e => by have := hlow q o e; omega)) (fun q o e => by have := hlow q o e; omega)) (fun q o e => by have := hlow q o e; omega)) (fun q o e => by have := hlow q o e; omega)) (fun q o e => by have := hlow q o e; omega)) (fun q o e => by have := hlow q o e; omega)
end Go.Proofs.YtalbllijahiiiaaGreatDoor
end

section
namespace Go.Proofs.YtalbllijahiiiaaGreatDoor
open Go.RowKit Go.Mine Go.Mine.Desk

set_option maxHeartbeats 1000000 in
theorem splitSeq_any (s sep : Bytes) (w : World) : Calls Tryz.prog 139 #[str s, str sep, .int .i64 0] w fun e w' =>
    e = .returned (.func (.func 160) #[] #[.pointer (some ⟨w.heap.size + 1, 0, none⟩), .pointer (some ⟨w.heap.size, 0, none⟩), .pointer (some ⟨w.heap.size + 1 + 1, 0, none⟩)]) ∧
    w' = ((w.alloc (.cells #[str s] 9)).alloc (.cells #[str sep] 9)).alloc (.cells #[.int .i64 0] 3) := by
  have hmf : ∀ (fn : Fn) (first cap : Array Value) (w : World), (Instr.makeFunc fn first cap).run Tryz.prog w = .ok (.func fn first cap) w := fun _ _ _ _ => rfl
  go_enter Tryz.func139, Tryz.ntmps139
  go_wp2_with fail
  go_ret
  exact ⟨rfl, rfl⟩
set_option maxHeartbeats 1000000 in
theorem SplitSeq_any (s sep : Bytes) (w : World) : Calls Tryz.prog 114 #[str s, str sep] w fun e w' =>
    e = .returned (.func (.func 160) #[] #[.pointer (some ⟨w.heap.size + 1, 0, none⟩), .pointer (some ⟨w.heap.size, 0, none⟩), .pointer (some ⟨w.heap.size + 1 + 1, 0, none⟩)]) ∧
    w' = ((w.alloc (.cells #[str s] 9)).alloc (.cells #[str sep] 9)).alloc (.cells #[.int .i64 0] 3) := by
  have HC := Lib.hid (splitSeq_any s sep w)
  go_enter Tryz.func114, Tryz.ntmps114
  go_wp2_with fail
  refine HC.out.mono ?_
  rintro e w1 ⟨rfl, hw1⟩
  have HW := Lib.hid hw1
  clear hw1
  go_wp2_with fail
  go_ret
  exact ⟨rfl, HW.out⟩

def LoopEnd (P : Program) (Q : Exit → Act → World → Prop) (a : Act) (l : Nat) (w' : World) : Prop :=
  ∃ r : Loop, w'.heap[l]? = some (.loop r) ∧ r.state ≠ .busy ∧ ∀ w2, w2 = w'.putObj l (.loop { r with state := .exhausted }) → match r.pending with
    | none => Q .normal a w2
    | some c => c.wp P Q a w2
theorem range_call {P : Program} {g : Operand} {ps : Array Tmp} {assign body : Code} {Q : Exit → Act → World → Prop} {a : Act} {w : World} {gf : Nat} {lb : Array Value}
    (hg : a.eval g = .func (.func gf) #[] lb) (eg : ∀ args w, (callFunc gf args).run P w = .ok (.enter gf args) w)
    (h : ∀ r : Loop, r.state = .ready → r.pending = none → r.tmps = a.tmps → r.params = ps → r.assign = assign → r.body = body → Calls P gf (#[.func (.yield (w.heap.size + 1)) #[] #[]] ++ lb) ((w.alloc (.deferred (some []))).alloc (.loop r))
      fun e w' => (∃ v, e = .returned v) ∧ LoopEnd P Q { a with defers := { target := .collected w.heap.size, args := #[] } :: a.defers } (w.heap.size + 1) w') :
    (Code.rangeFunc g ps assign body).wp P Q a w := by
  refine (wpIn_wide (n := 1)).1 (wpIn_rangeFunc ?_)
  intro fn _
  have hc := h { state := .ready, pending := none, fn := fn, tmps := a.tmps, params := ps, assign := assign, body := body, defers := w.heap.size } rfl rfl rfl rfl rfl rfl
  obtain ⟨W1, hW1⟩ : ∃ W1, (w.alloc (.deferred (some []))).alloc (.loop { state := .ready, pending := none, fn := fn, tmps := a.tmps, params := ps, assign := assign, body := body, defers := w.heap.size }) = W1 := ⟨_, rfl⟩
  rw [hW1] at hc
  refine ⟨w.heap.size + 1, [{ target := .collected w.heap.size, args := #[] }], W1, { target := .fn (.func gf) lb, args := #[.func (.yield (w.heap.size + 1)) #[] #[]] }, W1, gf,
    #[.func (.yield (w.heap.size + 1)) #[] #[]] ++ lb, W1, ?_, ?_, ?_, ?_, ?_, ?_⟩
  · rw [← hW1]; exact run_enterLoop_outer _ _ _ _ _
  · simp only [resolve, hg]
    simp [go_sem]
  · intro f' _; trivial
  · simp [invoke, go_sem, eg]
  · intro _; exact Nat.le_refl _
  · refine callsIn_wide.2 (hc.mono ?_)
    rintro e w' ⟨⟨v, rfl⟩, r, hr, hb, hj⟩
    refine ⟨r.pending, _, run_endLoop hr hb, ?_⟩
    obtain ⟨w2, hw2⟩ : ∃ w2, w2 = w'.putObj (w.heap.size + 1) (.loop { r with state := .exhausted }) := ⟨_, rfl⟩
    have hj2 := hj w2 hw2
    rw [← hw2]
    cases hp : r.pending with
    | none => rw [hp] at hj2; exact hj2
    | some c => rw [hp] at hj2; exact wpIn_wide.2 hj2
def roundEnd (l : Nat) (R : Value → World → Prop) : Exit → Act → World → Prop
  | .normal, _, w => ∃ x, w.heap[l]? = some (.loop x) ∧ R (.bool true) (w.putObj l (.loop { x with state := .ready, pending := none }))
  | .ret, _, w => ∃ x, w.heap[l]? = some (.loop x) ∧ R (.bool false) (w.putObj l (.loop { x with state := .done, pending := some .ret }))
  | .exit id, _, w => ∃ x, w.heap[l]? = some (.loop x) ∧ R (.bool false) (w.putObj l (.loop { x with state := .done, pending := some (.exit id) }))
  | _, _, _ => False
theorem round_call {P : Program} {l : Nat} {r : Loop} {args : Array Value} {w : World} {R : Value → World → Prop} {a : Act} (h : w.heap[l]? = some (.loop r)) (hs : args.size = r.params.size) (hr : r.state = .ready)
    (hassign : ∀ K : Act → World → Prop, K a w → r.assign.wpIn (Fence.wide.inRound l) 1 P (Exit.then K (fun _ _ _ => False)) { tmps := (r.params.zip args).foldl (fun t (p, v) => t.setIfInBounds p v) r.tmps, defers := [] } w)
    (hbody : r.body.wpIn (Fence.wide.inRound l) 1 P (roundEnd l R) a (w.putObj l (.loop { r with state := .busy }))) :
    YieldAt Fence.wide 1 P l args w fun e w' => ∃ v, e = .returned v ∧ R v w' := by
  refine ⟨r.fn, _, r.assign, r.body, run_yield h hs, roundIn_of_wpIn trivial (hassign _ ⟨_, run_beginRound h hr, wpIn_mono hbody ?_⟩)⟩
  rintro e a' w' hp
  cases e with
  | normal => obtain ⟨x, hx, hR⟩ := hp; exact ⟨_, _, run_endRound none hx, _, rfl, hR⟩
  | ret => obtain ⟨x, hx, hR⟩ := hp; exact ⟨_, _, run_endRound (some .ret) hx, _, rfl, hR⟩
  | exit id => obtain ⟨x, hx, hR⟩ := hp; exact ⟨_, _, run_endRound (some (.exit id)) hx, _, rfl, hR⟩
  | goto t => exact hp.elim
  | panic ch => exact hp.elim
  | outgrown => exact hp.elim
end Go.Proofs.YtalbllijahiiiaaGreatDoor
end

section
namespace Go.Proofs.YtalbllijahiiiaaGreatDoor
open Go.RowKit Go.Mine Go.Mine.Desk

theorem cuts_last {c : UInt8} {s : Bytes} (h : Go.Lib.indexByte s c = -1) : cuts c s = [s] := by
  refine cuts_none c s (fun hm => ?_)
  obtain ⟨k, hk, hv⟩ := List.getElem_of_mem hm
  exact Go.Lib.indexByte_none h k (by rw [List.getElem?_eq_getElem hk, hv])
theorem cuts_next {c : UInt8} {s : Bytes} {k : Nat} (h : Go.Lib.indexByte s c = (k : Int)) : k < s.length ∧ cuts c s = s.take k :: cuts c (s.drop (k + 1)) := by
  obtain ⟨h1, h2⟩ := Go.Lib.indexByte_some h
  obtain ⟨hk, hv⟩ := List.getElem?_eq_some_iff.1 h1
  refine ⟨hk, ?_⟩
  have e : s = s.take k ++ c :: s.drop (k + 1) := by
    conv => lhs; rw [← List.take_append_drop k s, List.drop_eq_getElem_cons hk, hv]
  conv => lhs; rw [e]
  rw [cuts_append, cuts_none c (s.take k)]
  · rfl
  · intro hm
    obtain ⟨j, hj, hjv⟩ := List.getElem_of_mem hm
    rw [List.getElem_take] at hjv
    rw [List.length_take] at hj
    exact h2 j (by omega) (by rw [List.getElem?_eq_getElem (by omega), hjv])
theorem index_dot (s : Bytes) (c : UInt8) (w : World) : Calls Tryz.prog 41 #[str s, str [c]] w fun e w' => e = .returned (.int .i64 (Go.Lib.indexByte s c)) ∧ w' = w := by
  have h := Tryz.strings_Index_one ⟨s.toArray⟩ c w
  simpa using h
theorem take_text (s : Bytes) (k : Nat) (hk : k ≤ s.length) (w : World) : (Instr.slice 9 (str s) none (some (.int .i64 (k : Int))) none).run Tryz.prog w = .ok (str (s.take k)) w := by
  rw [run_slice_string_h (P := Tryz.prog) w 9 ⟨s.toArray⟩ (by kernel_rfl) .i64 (k : Int) (by omega) (by simpa [ByteArray.size] using hk), Go.Lib.extract_eq]
  simp
theorem drop_text (s : Bytes) (k : Nat) (hk : k < s.length) (w : World) : (Instr.slice 9 (str s) (some (.int .i64 ((k : Int) + 1))) none none).run Tryz.prog w = .ok (str (s.drop (k + 1))) w := by
  rw [run_slice_string_l (P := Tryz.prog) w 9 ⟨s.toArray⟩ (by kernel_rfl) .i64 ((k : Int) + 1) (by omega) (by simp [ByteArray.size]; omega), Go.Lib.extract_eq]
  have e : ((k : Int) + 1).toNat = k + 1 := by omega
  rw [e]
  have e2 : (⟨s.toArray⟩ : ByteArray).size = s.length := by simp [ByteArray.size]
  rw [e2]
  rw [List.take_of_length_le (by simp)]
def leftAt (C : Nat) (w : World) : Nat := match w.cell? ⟨C, 0, none⟩ with
  | some (.string b) => b.size
  | _ => 0
theorem leftAt_eq {C : Nat} {w : World} {s : Bytes} (h : w.cell? ⟨C, 0, none⟩ = some (str s)) : leftAt C w = s.length := by
  unfold leftAt
  rw [h]
  simp [ByteArray.size]
structure PI (w : World) (s rest : Bytes) (zs : List Int) (B C : Nat) (W : World) : Prop where
  below : Below w.heap.size w W
  k0 : Blk W B 9 #[str s]
  k1 : Blk W (B + 1) 48 #[.slice none 0 0]
  k2 : Blk W (B + 1 + 1) 100 #[.nilIface]
  k3 : ∃ v, Blk W (B + 1 + 1 + 1) 48 #[v] ∧ W.ownsRow (C + 5) 3 1 v zs.length (zs.map (.int .i64))
  c0 : Blk W C 9 #[str rest]
  c1 : Blk W (C + 1) 9 #[str [46]]
  c2 : Blk W (C + 1 + 1) 3 #[.int .i64 0]
  kd : W.heap[C + 3]? = some (.deferred (some []))
theorem PI.turn {w : World} {s rest : Bytes} {zs : List Int} {B C : Nat} {W : World} (h : PI w s rest zs B C W) (hB : w.heap.size ≤ B) (hC : C = B + 4) (q : Bytes) : PI w s q zs B C (W.setCell ⟨C, 0, none⟩ (str q)) where
  below := h.below.setCell (by simp; omega) _
  k0 := h.k0.other C 0 (by omega) _
  k1 := h.k1.other C 0 (by omega) _
  k2 := h.k2.other C 0 (by omega) _
  k3 := by
    obtain ⟨v, h1, h2⟩ := h.k3
    exact ⟨v, h1.other C 0 (by omega) _, owns_block h2 fun g hg _ => Below.heap_setCell W ⟨C, 0, none⟩ _ g (by simp; omega)⟩
  c0 := by simpa using h.c0.set 0 (str q)
  c1 := h.c1.other C 0 (by omega) _
  c2 := h.c2.other C 0 (by omega) _
  kd := (Below.heap_setCell W ⟨C, 0, none⟩ _ (C + 3) (by simp)).trans h.kd
structure PR (w : World) (s : Bytes) (B C : Nat) (W : World) : Prop where
  below : Below w.heap.size w W
  k1 : Blk W (B + 1) 48 #[.slice none 0 0]
  k2 : Blk W (B + 1 + 1) 100 #[.iface 36 (.int .i64 3)]
  kd : W.heap[C + 3]? = some (.deferred (some []))
def noNumber (p : Bytes) : Prop := ∀ z, Go.Lib.atoiAll p ≠ .ok z
theorem atoiEach_no {p : Bytes} {l : List Bytes} (h : noNumber p) : atoiEach (p :: l) = none := by
  rw [atoiEach]
  cases ha : Go.Lib.atoiAll p with
  | ok v => exact absurd ha (h v)
  | range => rfl
  | _ => rfl
def RoundR (w : World) (s rest : Bytes) (zs : List Int) (p : Bytes) (B C : Nat) (r : Loop) (v : Value) (W : World) : Prop :=
  (v = .bool true ∧ s ≠ [] ∧ ∃ z, Go.Lib.atoiAll p = .ok z ∧ PI w s rest (zs ++ [z]) B C W ∧ W.heap[C + 4]? = some (.loop r)) ∨
  (v = .bool false ∧ s = [] ∧ PI w s rest zs B C W ∧ W.heap[C + 4]? = some (.loop { r with state := .done, pending := some (.exit 0) })) ∨
  (v = .bool false ∧ s ≠ [] ∧ noNumber p ∧ PR w s B C W ∧ W.heap[C + 4]? = some (.loop { r with state := .done, pending := some .ret }))
def IterEnd (w : World) (s : Bytes) (B C : Nat) (r : Loop) (W : World) : Prop :=
  (s ≠ [] ∧ ∃ zs rest, atoiEach (cuts 46 s) = some zs ∧ PI w s rest zs B C W ∧ W.heap[C + 4]? = some (.loop r)) ∨
  (s = [] ∧ PI w s [] [] B C W ∧ W.heap[C + 4]? = some (.loop { r with state := .done, pending := some (.exit 0) })) ∨
  (s ≠ [] ∧ atoiEach (cuts 46 s) = none ∧ PR w s B C W ∧ W.heap[C + 4]? = some (.loop { r with state := .done, pending := some .ret }))
attribute [local go_sem] Oper.semAt_some
set_option maxRecDepth 100000 in
set_option maxHeartbeats 2000000 in
theorem split_iter (w : World) (s : Bytes) (hs : s.length ≤ 281474976710656) (B C : Nat) (hB : w.heap.size ≤ B) (hC : C = B + 4) (r : Loop)
    (hround : ∀ (W : World) (rest : Bytes) (zs : List Int) (p : Bytes), p.length ≤ s.length → PI w s rest zs B C W → zs.length ≤ s.length → W.heap[C + 4]? = some (.loop r) →
      YieldAt Fence.wide 1 Tryz.prog (C + 4) #[str p] W fun e W' => ∃ v, e = .returned v ∧ RoundR w s rest zs p B C r v W')
    (W : World) (hW : PI w s s [] B C W) (hl : W.heap[C + 4]? = some (.loop r)) :
    Calls Tryz.prog 160 #[.func (.yield (C + 4)) #[] #[], .pointer (some ⟨C + 1, 0, none⟩), .pointer (some ⟨C, 0, none⟩), .pointer (some ⟨C + 1 + 1, 0, none⟩)] W fun e W' => (∃ v, e = .returned v) ∧ IterEnd w s B C r W' := by
  have d1 : W.cell? ⟨C + 1, 0, none⟩ = some (str [46]) := hW.c1.cell 0
  have HBC := Lib.hid (And.intro hB hC)
  clear hB hC
  refine (callsIn_wide (n := 2)).1 ?_
  refine callsIn_of_wp Tryz.func160 rfl trivial ?_ rfl
  simp only [Tryz.ntmps160, List.size_toArray, List.length_cons, List.length_nil, Nat.reduceAdd, Nat.reduceSub, Array.replicate_succ, Array.replicate_zero, List.push_toArray, List.append_toArray, List.nil_append, List.cons_append]
  gi_wp2
  gi_loopw [] (fun wr => ∃ (rest : Bytes) (zs : List Int), RowKit.Hid (PI w s rest zs B C wr ∧ wr.heap[C + 4]? = some (.loop r) ∧ atoiEach (cuts 46 s) = (atoiEach (cuts 46 rest)).map (zs ++ ·) ∧ rest.length + zs.length ≤ s.length ∧ (zs = [] → rest = s)))
    (fun wr => leftAt C wr)
  case atStart => exact ⟨s, [], Lib.hid ⟨hW, hl, by simp, by simp, fun _ => rfl⟩⟩
  case round =>
    obtain ⟨rest, zs, HI⟩ := hrel
    obtain ⟨hp, hrec, heq, hlen, hst⟩ := HI.out
    have e0 : wr.cell? ⟨C, 0, none⟩ = some (str rest) := hp.c0.cell 0
    have e1 : wr.cell? ⟨C + 1, 0, none⟩ = some (str [46]) := hp.c1.cell 0
    have e2 : wr.cell? ⟨C + 1 + 1, 0, none⟩ = some (.int .i64 0) := hp.c2.cell 0
    have HX := Lib.hid (index_dot rest 46 wr)
    obtain ⟨ix, hix⟩ : ∃ ix, ix = Go.Lib.indexByte rest 46 := ⟨_, rfl⟩
    have hge := Go.Lib.indexByte_ge rest 46
    rw [← hix] at HX hge
    rcases (show ix < 0 ∨ 0 ≤ ix by omega) with h0 | h0
    · obtain rfl : ix = -1 := by omega
      have hc := cuts_last hix.symm
      obtain ⟨fn, tmps, assign, body, hy, hR⟩ := hround wr rest zs rest (by omega) hp (by omega) hrec
      have HH := Lib.hid (And.intro hc heq)
      have HH2 := Lib.hid (And.intro hst hlen)
      clear hp hrec heq hix hge h0 hc hst hlen
      gi_wp2_with (refine ⟨trivial, ?_⟩; gi_at_call 41; refine (callsIn_wide.2 HX.out).mono ?_; rintro e w' ⟨rfl, rfl⟩)
      refine hR.mono ?_
      rintro e W3 ⟨v, rfl, hrr⟩
      rcases hrr with ⟨rfl, hne, z, hz, hp3, hr3⟩ | ⟨rfl, he, hp3, hr3⟩ | ⟨rfl, hne, hno, hp3, hr3⟩
      · have HE := Lib.hid (And.intro hne (And.intro hz (And.intro hp3 hr3)))
        clear hne hz hp3 hr3
        gi_wp2
        go_end0
        refine ⟨⟨_, rfl⟩, .inl ⟨HE.out.1, zs ++ [z], rest, ?_, HE.out.2.2.1, HE.out.2.2.2⟩⟩
        rw [HH.out.2, HH.out.1]
        simp [atoiEach, HE.out.2.1]
      · have HE := Lib.hid (And.intro he (And.intro hp3 hr3))
        clear he hp3 hr3
        gi_wp2
        go_end0
        have hz0 : zs = [] := List.eq_nil_of_length_eq_zero (by have h1 := HH2.out.2; rw [HE.out.1, List.length_nil] at h1; omega)
        have hr0 : rest = [] := List.eq_nil_of_length_eq_zero (by have h1 := HH2.out.2; rw [HE.out.1, List.length_nil] at h1; omega)
        subst hz0 hr0
        exact ⟨⟨_, rfl⟩, .inr (.inl HE.out)⟩
      · have HE := Lib.hid (And.intro hne (And.intro hno (And.intro hp3 hr3)))
        clear hne hno hp3 hr3
        gi_wp2
        go_end0
        refine ⟨⟨_, rfl⟩, .inr (.inr ⟨HE.out.1, ?_, HE.out.2.2.1, HE.out.2.2.2⟩)⟩
        rw [HH.out.2, HH.out.1, atoiEach_no HE.out.2.1]
        rfl
    · obtain ⟨k, rfl⟩ := Int.eq_ofNat_of_zero_le h0
      obtain ⟨hk, hc⟩ := cuts_next hix.symm
      have hs1 := take_text rest k (by omega)
      have hs2 := drop_text rest k hk
      obtain ⟨p, hpp⟩ : ∃ p, p = rest.take k := ⟨_, rfl⟩
      obtain ⟨q, hq⟩ : ∃ q, q = rest.drop (k + 1) := ⟨_, rfl⟩
      have hpl : p.length ≤ s.length := by rw [hpp, List.length_take]; omega
      have hql : q.length + (k + 1) = rest.length := by rw [hq, List.length_drop]; omega
      have hw1 : wrap64 (k : Int) = k := by unfold wrap64; omega
      have hw2 : wrap64 ((k : Int) + 1) = (k : Int) + 1 := by unfold wrap64; omega
      have hd0 : decide ((k : Int) < 0) = false := decide_eq_false (by omega)
      rw [← hpp] at hs1
      rw [← hq] at hs2
      rw [← hpp, ← hq] at hc
      obtain ⟨fn, tmps, assign, body, hy, hR⟩ := hround wr rest zs p hpl hp (by omega) hrec
      have HH := Lib.hid (And.intro hc (And.intro heq (And.intro hst hlen)))
      clear hp hrec heq hix hge hc hpp hq hpl hst
      gi_wp2_with (refine ⟨trivial, ?_⟩; gi_at_call 41; refine (callsIn_wide.2 HX.out).mono ?_; rintro e w' ⟨rfl, rfl⟩)
      refine hR.mono ?_
      rintro e W3 ⟨v, rfl, hrr⟩
      rcases hrr with ⟨rfl, hne, z, hz, hp3, hr3⟩ | ⟨rfl, he, hp3, hr3⟩ | ⟨rfl, hne, hno, hp3, hr3⟩
      · have f0 : W3.cell? ⟨C, 0, none⟩ = some (str rest) := hp3.c0.cell 0
        have f1 : W3.cell? ⟨C + 1, 0, none⟩ = some (str [46]) := hp3.c1.cell 0
        have ff := hp3.c0.froz 0
        have HE := Lib.hid (And.intro hne (And.intro hz (And.intro hp3 hr3)))
        clear hne hz hp3 hr3 e0 e1 e2
        gi_wp2
        go_roundw
        case rel =>
          refine ⟨q, zs ++ [z], Lib.hid ⟨HE.out.2.2.1.turn HBC.out.1 HBC.out.2 q, ?_, ?_, ?_, fun h => absurd h (by simp)⟩⟩
          · rw [Below.heap_setCell W3 ⟨C, 0, none⟩ _ (C + 4) (by simp)]
            exact HE.out.2.2.2
          · rw [HH.out.2.1, HH.out.1, atoiEach, HE.out.2.1]
            simp only [Option.map_map]
            congr 1
            funext l
            simp
          · have := HH.out.2.2.2
            rw [List.length_append, List.length_singleton]
            omega
        case measure =>
          rw [leftAt_eq (HI.out.1.c0.cell 0), leftAt_eq ((HE.out.2.2.1.turn HBC.out.1 HBC.out.2 q).c0.cell 0)]
          omega
      · have h1 := HH.out.2.2.2
        rw [he, List.length_nil] at h1
        omega
      · have HE := Lib.hid (And.intro hne (And.intro hno (And.intro hp3 hr3)))
        clear hne hno hp3 hr3
        gi_wp2
        refine bodyPost_ret (results_none rfl _ _ _) rfl ?_
        refine ⟨⟨_, rfl⟩, .inr (.inr ⟨HE.out.1, ?_, HE.out.2.2.1, HE.out.2.2.2⟩)⟩
        rw [HH.out.2.1, HH.out.1, atoiEach_no HE.out.2.1]
        rfl
end Go.Proofs.YtalbllijahiiiaaGreatDoor
end
