/- expr.told at the whole, Eval, Fails at a desk's expression. -/
import Derived.Test.YtalbllijahiiiaaGreatDoorDesk18
namespace Go.Proofs.YtalbllijahiiiaaGreatDoor
open Go.RowKit Go.Mine Go.Mine.Desk

def verdict (n : Int) (x : V) : Int := if total x < n then 1 else 0
theorem truth_on (t : Bool) (w : World) (ht : t = true) : Calls Tryz.prog 177 #[.bool t] w fun e w' => e = .returned (.int .i64 1) ∧ w' = w := by
  subst ht; exact truth_any true w
theorem truth_off (t : Bool) (w : World) (ht : t = false) : Calls Tryz.prog 177 #[.bool t] w fun e w' => e = .returned (.int .i64 0) ∧ w' = w := by
  subst ht; exact truth_any false w
set_option maxRecDepth 100000 in
set_option maxHeartbeats 1000000 in
theorem told_whole (n : Int) (eb : Nat) (v : Value) (x : V) (B0 : Nat) (w : World) (he : ExprAt w eb n) (hv : ValAt w B0 v x) (hx : VOk x) : Calls Tryz.prog 171 #[wholeE eb, v] w fun e w' => e = .returned (.int .i64 (verdict n x)) ∧ Below w.heap.size w w' := by
  obtain ⟨vk, vz, vao, vn, vc, hsh⟩ := hv.shape
  have hmf : ∀ (fn : Fn) (first cap : Array Value) (w : World), (Instr.makeFunc fn first cap).run Tryz.prog w = .ok (.func fn first cap) w := fun _ _ _ _ => rfl
  have hent := told1_enters
  obtain ⟨w2, hw2⟩ : ∃ w2, w2 = (w.alloc (.cells #[.int .i64 7, .int .i64 0, .slice (some ⟨eb, 0, none⟩) 2 2] 41)).alloc (.cells #[.bool vk, .int .i64 vz, .slice vao vn vc] 53) := ⟨_, rfl⟩
  have hb2 : Below w.heap.size w w2 := by rw [hw2]; exact ((Below.refl w.heap.size w).alloc (Nat.le_refl _) _).alloc (by simp) _
  have ke : Blk w2 w.heap.size 41 #[.int .i64 7, .int .i64 0, .slice (some ⟨eb, 0, none⟩) 2 2] := by rw [hw2]; exact (Blk.new _ _ _).alloc _
  have kv : Blk w2 (w.heap.size + 1) 53 #[.bool vk, .int .i64 vz, .slice vao vn vc] := by rw [hw2]; have := Blk.new (w.alloc (.cells #[.int .i64 7, .int .i64 0, .slice (some ⟨eb, 0, none⟩) 2 2] 41)) 53 #[.bool vk, .int .i64 vz, .slice vao vn vc]; simpa using this
  have HP := Lib.hid (fun (i : Nat) (hi : i < 2) (wx : World) (hbx : Below w2.heap.size w2 wx) => told1_any i hi n eb w.heap.size (w.heap.size + 1) v x B0 vk vz vao vn vc hsh wx (ke.below hbx) (((show Blk w eb _ _ from he).below hb2).below hbx) (kv.below hbx) ((hv.below hb2).below hbx) hx)
  have HC0 := Lib.hid (HP.out 0 (by omega) w2 (Below.refl _ _))
  have HW := Lib.hid hw2
  have HB := Lib.hid (And.intro hb2 ke)
  obtain ⟨tx, htx⟩ : ∃ tx, tx = total x := ⟨_, rfl⟩
  rw [show partOf n x 0 = tx from htx.symm] at HC0
  have HTX := Lib.hid htx
  rw [hw2] at HC0
  rw [hsh]
  clear hw2 hb2 ke kv hv he hsh htx
  go_enter Tryz.func171, Tryz.ntmps171
  go_wp2_with fail
  refine HC0.out.mono ?_
  clear HC0
  rintro e w3 ⟨rfl, hb3⟩
  rw [← HW.out] at hb3
  have HC1 := Lib.hid (HP.out 1 (by omega) w3 hb3)
  rw [show partOf n x 1 = n from rfl] at HC1
  have hke := HB.out.2.below hb3
  have c0 : w3.cell? ⟨w.heap.size, 0, none⟩ = some (.int .i64 7) := hke.cell 0
  have HB3 := Lib.hid (And.intro (HB.out.1.trans (hb3.mono HB.out.1.size)) hke)
  clear hb3 hke
  go_wp2_with fail
  refine HC1.out.mono ?_
  clear HC1
  rintro e w4 ⟨rfl, hb4⟩
  have hke := HB3.out.2.below hb4
  have c0' : w4.cell? ⟨w.heap.size, 0, none⟩ = some (.int .i64 7) := hke.cell 0
  have HB4 := Lib.hid (HB3.out.1.trans (hb4.mono HB3.out.1.size))
  clear hb4 hke
  by_cases hlt : tx < n
  · have HV := Lib.hid (show verdict n x = 1 by unfold verdict; rw [← HTX.out, if_pos hlt])
    have HT := Lib.hid (truth_on true w4 rfl)
    go_wp2_with fail
    refine HT.out.mono ?_
    rintro e w5 ⟨rfl, rfl⟩
    go_wp2_with fail
    go_ret
    exact ⟨by rw [HV.out]; rfl, HB4.out⟩
  · have HV := Lib.hid (show verdict n x = 0 by unfold verdict; rw [← HTX.out, if_neg hlt])
    have HT := Lib.hid (truth_off (decide (tx < n)) w4 (by simp; omega))
    go_wp2_with fail
    refine HT.out.mono ?_
    rintro e w5 ⟨rfl, rfl⟩
    go_wp2_with fail
    go_ret
    exact ⟨by rw [HV.out]; rfl, HB4.out⟩
theorem eval_idle (p q : Addr) (w : World) :
    CallsD Tryz.prog 170 #[.pointer (some p), .pointer (some q)] .returning w fun e u' w' => e = .returned (.tuple #[]) ∧ u' = .returning ∧ w' = w := by
  refine callsD_of_wpS Tryz.func170 rfl fun c₀ cs hu => ?_
  apply wpS_seq
  apply wpS_region
  simp [wpOpsS, go_sem, recoverD, hu, Tryz.ntmps170, Exit.thenS]
  rw [show #[.pointer (some p), .pointer (some q)] ++ ((Array.replicate 16 undef).setIfInBounds 3 (.nilIface : Value)).setIfInBounds 0 .nilIface = #[.pointer (some p), .pointer (some q), .nilIface, undef, undef, .nilIface, undef, undef, undef, undef, undef, undef, undef, undef, undef, undef, undef, undef] from by kernel_rfl]
  refine wpS_of_wp ?_
  go_wp2_with fail
  cases c₀
  simp_all [bodyPostS, results, Tryz.results170]
set_option maxRecDepth 100000 in
set_option maxHeartbeats 2000000 in
theorem eval_any (n : Int) (eb : Nat) (v : Value) (x : V) (B0 : Nat) (w : World) (hg : Gl w) (he : ExprAt w eb n) (hv : ValAt w B0 v x) (hx : VOk x) : Calls Tryz.prog 168 #[wholeE eb, v] w fun e w' => e = .returned (.tuple #[.int .i64 (verdict n x), .nilIface]) ∧ Below w.heap.size w w' := by
  obtain ⟨vk, vz, vao, vn, vc, hsh⟩ := hv.shape
  have hmf : ∀ (fn : Fn) (first cap : Array Value) (w : World), (Instr.makeFunc fn first cap).run Tryz.prog w = .ok (.func fn first cap) w := fun _ _ _ _ => rfl
  obtain ⟨w0, hw0⟩ : ∃ w0, w0 = (((w.alloc (.cells #[.int .i64 7, .int .i64 0, .slice (some ⟨eb, 0, none⟩) 2 2] 41)).alloc (.cells #[.bool vk, .int .i64 vz, .slice vao vn vc] 53)).alloc (.cells #[.int .i64 0] 3)).alloc (.cells #[.nilIface] 100) := ⟨_, rfl⟩
  have hs0 : w0.heap.size = w.heap.size + 4 := by rw [hw0]; simp
  have hb0 : Below w.heap.size w w0 := by rw [hw0]; exact ((((Below.refl w.heap.size w).alloc (Nat.le_refl _) _).alloc (by simp) _).alloc (by simp; omega) _).alloc (by simp; omega) _
  have k0 : Blk w0 w.heap.size 41 #[.int .i64 7, .int .i64 0, .slice (some ⟨eb, 0, none⟩) 2 2] := by rw [hw0]; exact (((Blk.new _ _ _).alloc _).alloc _).alloc _
  have k1 : Blk w0 (w.heap.size + 1) 53 #[.bool vk, .int .i64 vz, .slice vao vn vc] := by rw [hw0]; exact ((show Blk ((w.alloc _).alloc (.cells #[.bool vk, .int .i64 vz, .slice vao vn vc] 53)) (w.heap.size + 1) _ _ by have := Blk.new (w.alloc (.cells #[.int .i64 7, .int .i64 0, .slice (some ⟨eb, 0, none⟩) 2 2] 41)) 53 #[.bool vk, .int .i64 vz, .slice vao vn vc]; simpa using this).alloc _).alloc _
  have k2 : Blk w0 (w.heap.size + 2) 3 #[.int .i64 0] := by rw [hw0]; exact (show Blk (((w.alloc _).alloc _).alloc (.cells #[.int .i64 0] 3)) (w.heap.size + 2) _ _ by have := Blk.new ((w.alloc (.cells #[.int .i64 7, .int .i64 0, .slice (some ⟨eb, 0, none⟩) 2 2] 41)).alloc (.cells #[.bool vk, .int .i64 vz, .slice vao vn vc] 53)) 3 #[.int .i64 0]; simpa using this).alloc _
  have k3 : Blk w0 (w.heap.size + 3) 100 #[.nilIface] := by rw [hw0]; have := Blk.new (((w.alloc (.cells #[.int .i64 7, .int .i64 0, .slice (some ⟨eb, 0, none⟩) 2 2] 41)).alloc (.cells #[.bool vk, .int .i64 vz, .slice vao vn vc] 53)).alloc (.cells #[.int .i64 0] 3)) 100 #[.nilIface]; simpa using this
  have he0 : ExprAt w0 eb n := (show Blk w eb _ _ from he).below hb0
  have HC0 := Lib.hid (expr_check n eb w0 (hg.on hb0) he0)
  have HC1 := Lib.hid (fun (wx : World) (hbx : Below w0.heap.size w0 wx) => val_check_any x v B0 wx ((hv.below hb0).below hbx))
  have HC2 := Lib.hid (fun (wx : World) (hbx : Below w0.heap.size w0 wx) => told_whole n eb v x B0 wx ((show Blk w0 eb _ _ from he0).below hbx) ((hv.below hb0).below hbx) hx)
  obtain ⟨B, hB⟩ : ∃ B, w.heap.size = B := ⟨_, rfl⟩
  have HK := Lib.hid (And.intro hb0 (And.intro k0 (And.intro k1 (And.intro k2 k3))))
  have HW := Lib.hid hw0
  have HS0 := Lib.hid hs0
  have c0 : w0.cell? ⟨B, 0, none⟩ = some (.int .i64 7) := by rw [← hB]; exact k0.cell 0
  have c1 : w0.cell? ⟨B, 1, none⟩ = some (.int .i64 0) := by rw [← hB]; exact k0.cell 1
  have c2 : w0.cell? ⟨B, 2, none⟩ = some (.slice (some ⟨eb, 0, none⟩) 2 2) := by rw [← hB]; exact k0.cell 2
  rw [hsh] at HC1 HC2 ⊢
  rw [hw0] at HC0 c0 c1 c2
  clear hw0 hb0 k0 k1 k2 k3 hs0 he0 hv he hg
  go_enter_defers Tryz.func168, Tryz.ntmps168
  go_wp2_with fail
  refine HC0.out.mono ?_
  clear HC0
  rintro e w1 ⟨rfl, hb1⟩
  rw [← HW.out] at hb1
  have HC1a := Lib.hid (HC1.out w1 hb1)
  have k1 := HK.out.2.2.1.below hb1
  rw [hB] at k1
  have d0 : w1.cell? ⟨B + 1, 0, none⟩ = some (.bool vk) := k1.cell 0
  have d1 : w1.cell? ⟨B + 1, 1, none⟩ = some (.int .i64 vz) := k1.cell 1
  have d2 : w1.cell? ⟨B + 1, 2, none⟩ = some (.slice vao vn vc) := k1.cell 2
  have HB1 := Lib.hid hb1
  clear hb1 k1 c0 c1 c2
  go_wp2_with fail
  refine HC1a.out.mono ?_
  clear HC1a
  rintro e w2 ⟨rfl, hb2⟩
  have hb2' := HB1.out.trans (hb2.mono HB1.out.size)
  have HC2a := Lib.hid (HC2.out w2 hb2')
  have k0 := HK.out.2.1.below hb2'
  have k1 := HK.out.2.2.1.below hb2'
  rw [hB] at k0 k1
  have c0 : w2.cell? ⟨B, 0, none⟩ = some (.int .i64 7) := k0.cell 0
  have c1 : w2.cell? ⟨B, 1, none⟩ = some (.int .i64 0) := k0.cell 1
  have c2 : w2.cell? ⟨B, 2, none⟩ = some (.slice (some ⟨eb, 0, none⟩) 2 2) := k0.cell 2
  have e0 : w2.cell? ⟨B + 1, 0, none⟩ = some (.bool vk) := k1.cell 0
  have e1 : w2.cell? ⟨B + 1, 1, none⟩ = some (.int .i64 vz) := k1.cell 1
  have e2 : w2.cell? ⟨B + 1, 2, none⟩ = some (.slice vao vn vc) := k1.cell 2
  have HB2 := Lib.hid hb2'
  clear hb2 hb2' k0 k1 d0 d1 d2
  go_wp2_with fail
  refine HC2a.out.mono ?_
  clear HC2a
  rintro e w3 ⟨rfl, hb3⟩
  have hb3' := HB2.out.trans (hb3.mono HB2.out.size)
  have k2 := HK.out.2.2.2.1.below hb3'
  have k3 := HK.out.2.2.2.2.below hb3'
  have HB3 := Lib.hid (And.intro k2 (And.intro k3 (HK.out.1.trans (hb3'.mono HK.out.1.size))))
  rw [hB] at k2 k3
  have g0 : w3.cell? ⟨B + 2, 0, none⟩ = some (.int .i64 0) := k2.cell 0
  have g1 : w3.cell? ⟨B + 3, 0, none⟩ = some .nilIface := k3.cell 0
  have f0 := k2.froz 0
  have f1 := k3.froz 0
  clear hb3 hb3' k2 k3
  go_wp2_with fail
  refine leaves_cons (f := 170) (args := #[.pointer (some ⟨B + 1 + 1, 0, none⟩), .pointer (some ⟨B + 1 + 1 + 1, 0, none⟩)]) (by simp) (by simp [go_sem]) ?_
  refine (eval_idle _ _ _).mono ?_
  rintro e u' w'' ⟨rfl, rfl, hw⟩
  have q2 : Blk w'' (w.heap.size + 2) 3 #[.int .i64 (verdict n x)] := by rw [hw, ← hB]; exact (HB3.out.1.set 0 _).other _ _ (by omega) _
  have q3 : Blk w'' (w.heap.size + 3) 100 #[.nilIface] := by rw [hw, ← hB]; exact (HB3.out.2.1.other _ _ (by omega) _).set 0 _
  have HBW := Lib.hid (show Below w.heap.size w w'' by rw [hw]; exact (HB3.out.2.2.setCell (by simp; omega) _).setCell (by simp; omega) _)
  clear hw
  rw [hB] at q2 q3
  have h2 := q2.cell 0
  have h3 := q3.cell 0
  simp at h2 h3
  simp [Leaves, settle, results, Tryz.results168, go_sem, Nat.add_assoc, h2, h3]
  first | exact HBW.out | (rw [← hB]; exact HBW.out)
end Go.Proofs.YtalbllijahiiiaaGreatDoor
