/- assayerref2.set; how an answered line is told. How an answered line is walked. assayerref2.Answered: count. -/
import Derived.Test.YtalbllijahiiiaaGreatDoorDkBI
import Derived.Deep.RegionHeld
section
namespace Go.Proofs.YtalbllijahiiiaaGreatDoor
open Go.RowKit Go.Mine Go.Mine.Desk

def DskAt (w : World) (v : Value) (st : St) : Prop := ∃ gK xa gb gao gn gc, v = .agg #[.int .i64 gK, .int .i64 xa, .int .i64 gb, .slice gao gn gc, .int .i64 st.2] ∧ GenAt w (.agg #[.int .i64 gK, .int .i64 xa, .int .i64 gb, .slice gao gn gc]) st.1 ∧ st.1.right ∧ near st.2
def AnsPost (p : Bytes × St) (w : World) (e : Ending) (w' : World) : Prop := Below w.heap.size w w' ∧ ∃ v, e = .returned (.tuple #[v, str p.1]) ∧ DskAt w' v p.2
theorem drew_heap (w : World) : w.drew.heap = w.heap := rfl
theorem GenAt.cells {w w' : World} {v : Value} {g : G} (h : GenAt w v g) (hs : ∀ b a c, SubAt w b a c → w'.heap[b]? = w.heap[b]?) : GenAt w' v g := h.kept hs
theorem sub_far {w : World} {b B : Nat} {a c : Int} {T : TypeId} {cs : Array Value} (h : SubAt w b a c) (k : Blk w B T cs) (hT : T ≠ 28) : b ≠ B := by
  rintro rfl
  have h1 : w.heap[b]? = _ := h
  have h2 : w.heap[b]? = _ := k
  rw [h1] at h2
  simp only [Option.some.injEq, Obj.cells.injEq] at h2
  exact hT h2.2.1.symm
set_option maxRecDepth 100000 in
set_option maxHeartbeats 2000000 in
theorem setTo_any (g0 : G) (n : Int) (g : G) (v : Value) (hn : g.near) (h0 : g0.right) (hnn : near n) (gK xa gb : Int) (gao : Option Addr) (gn gc : Nat) (w : World) (hv0 : GenAt w (.agg #[.int .i64 gK, .int .i64 xa, .int .i64 gb, .slice gao gn gc]) g0) (hv : GenAt w v g) :
    Calls Tryz.prog 21 #[.agg #[.int .i64 gK, .int .i64 xa, .int .i64 gb, .slice gao gn gc, .int .i64 n], v] w (AnsPost (lineOut (g0, n) (setR (g0, n) g)) w) := by
  obtain ⟨hk, ha, hb, hao, hgn, hgc, hsh⟩ := hv.shape
  obtain ⟨a1, h1⟩ : ∃ a1, a1 = w.alloc (.cells #[.int .i64 gK, .int .i64 xa, .int .i64 gb, .slice gao gn gc, .int .i64 n] 30) := ⟨_, rfl⟩
  obtain ⟨a2, h2⟩ : ∃ a2, a2 = a1.alloc (.cells #[.int .i64 hk, .int .i64 ha, .int .i64 hb, .slice hao hgn hgc] 28) := ⟨_, rfl⟩
  obtain ⟨w0, hw0⟩ : ∃ w0, w0 = a2.alloc (.cells #[.int .i64 0, .int .i64 0, .int .i64 0, .slice none 0 0, .int .i64 0] 30) := ⟨_, rfl⟩
  obtain ⟨B, hB⟩ : ∃ B, w.heap.size = B := ⟨_, rfl⟩
  have z1 : a1.heap.size = B + 1 := by rw [h1, ← hB]; simp
  have z2 : a2.heap.size = B + 1 + 1 := by rw [h2, ← z1]; simp
  have hb0 : Below w.heap.size w w0 := by rw [hw0, h2, h1]; exact (((Below.refl w.heap.size w).alloc (Nat.le_refl _) _).alloc (by simp) _).alloc (by simp; omega) _
  have k1 : Blk w0 B 30 #[.int .i64 gK, .int .i64 xa, .int .i64 gb, .slice gao gn gc, .int .i64 n] := by
    have k : Blk a1 B 30 #[.int .i64 gK, .int .i64 xa, .int .i64 gb, .slice gao gn gc, .int .i64 n] := by rw [h1, ← hB]; exact Blk.new _ _ _
    rw [hw0, h2]; exact (k.alloc _).alloc _
  have k2 : Blk w0 (B + 1) 28 #[.int .i64 hk, .int .i64 ha, .int .i64 hb, .slice hao hgn hgc] := by
    have k : Blk a2 (B + 1) 28 #[.int .i64 hk, .int .i64 ha, .int .i64 hb, .slice hao hgn hgc] := by rw [h2, ← z1]; exact Blk.new _ _ _
    rw [hw0]; exact k.alloc _
  have k3 : Blk w0 (B + 1 + 1) 30 #[.int .i64 0, .int .i64 0, .int .i64 0, .slice none 0 0, .int .i64 0] := by rw [hw0, ← z2]; exact Blk.new _ _ _
  have HC := Lib.hid (GenFault_any g v hn w0 (hv.on hb0))
  have HK := Lib.hid (And.intro hb0 (And.intro k1 (And.intro k2 (And.intro k3 (And.intro (hv0.on hb0) (hv.on hb0))))))
  have HW := Lib.hid hw0
  have HSH := Lib.hid hsh
  have HN := Lib.hid (And.intro hn (And.intro h0 hnn))
  have c0 : w0.cell? ⟨B + 1, 0, none⟩ = some (.int .i64 hk) := k2.cell 0
  have c1 : w0.cell? ⟨B + 1, 1, none⟩ = some (.int .i64 ha) := k2.cell 1
  have c2 : w0.cell? ⟨B + 1, 2, none⟩ = some (.int .i64 hb) := k2.cell 2
  have c3 : w0.cell? ⟨B + 1, 3, none⟩ = some (.slice hao hgn hgc) := k2.cell 3
  rw [h2, h1] at HW
  rw [hsh] at HC ⊢
  clear hw0 hb0 k1 k2 k3 hv hv0 hn h0 hnn hsh z1 z2 h1 h2
  go_enter Tryz.func21, Tryz.ntmps21
  go_upto_region 1 with fail
  rw [← HW.out]
  go_wp2_with fail
  refine HC.out.mono ?_
  clear HC c0 c1 c2 c3
  rintro e w1 ⟨rfl, hb1⟩
  have hb1' := HK.out.1.trans (hb1.mono HK.out.1.size)
  have k1 := HK.out.2.1.below hb1
  have k2 := HK.out.2.2.1.below hb1
  have k3 := HK.out.2.2.2.1.below hb1
  have e0 : w1.cell? ⟨B, 0, none⟩ = some (.int .i64 gK) := k1.cell 0
  have e1 : w1.cell? ⟨B, 1, none⟩ = some (.int .i64 xa) := k1.cell 1
  have e2 : w1.cell? ⟨B, 2, none⟩ = some (.int .i64 gb) := k1.cell 2
  have e3 : w1.cell? ⟨B, 3, none⟩ = some (.slice gao gn gc) := k1.cell 3
  have e4 : w1.cell? ⟨B, 4, none⟩ = some (.int .i64 n) := k1.cell 4
  have r0 : w1.cell? ⟨B + 1 + 1, 0, none⟩ = some (.int .i64 0) := k3.cell 0
  have r1 : w1.cell? ⟨B + 1 + 1, 1, none⟩ = some (.int .i64 0) := k3.cell 1
  have r2 : w1.cell? ⟨B + 1 + 1, 2, none⟩ = some (.int .i64 0) := k3.cell 2
  have r3 : w1.cell? ⟨B + 1 + 1, 3, none⟩ = some (.slice none 0 0) := k3.cell 3
  have r4 : w1.cell? ⟨B + 1 + 1, 4, none⟩ = some (.int .i64 0) := k3.cell 4
  have s0 := k3.froz 0
  have s1 := k3.froz 1
  have s2 := k3.froz 2
  have s3 := k3.froz 3
  have s4 := k3.froz 4
  by_cases hr : g.right
  · have hf := right_fault hr
    have HR := Lib.hid (show lineOut (g0, n) (setR (g0, n) g) = (okT, (g, n)) by unfold setR; rw [if_pos hr]; rfl)
    rw [hf]
    have f0 := k1.froz 0
    have f1 := k1.froz 1
    have f2 := k1.froz 2
    have f3 := k1.froz 3
    have c0 : w1.cell? ⟨B + 1, 0, none⟩ = some (.int .i64 hk) := k2.cell 0
    have c1 : w1.cell? ⟨B + 1, 1, none⟩ = some (.int .i64 ha) := k2.cell 1
    have c2 : w1.cell? ⟨B + 1, 2, none⟩ = some (.int .i64 hb) := k2.cell 2
    have c3 : w1.cell? ⟨B + 1, 3, none⟩ = some (.slice hao hgn hgc) := k2.cell 3
    have H1 := Lib.hid (And.intro hb1' (And.intro (HK.out.2.2.2.2.2.on hb1) (And.intro k1 (And.intro k3 hr))))
    clear hb1 hb1' k1 k2 k3 hf hr
    go_wp2_with fail
    refine bodyPost_ret (v := .tuple #[.agg #[.int .i64 hk, .int .i64 ha, .int .i64 hb, .slice hao hgn hgc, .int .i64 n], str okT]) (by simp [results, Tryz.results21, go_sem, r0, r1, r2, r3, r4, okT]) rfl ⟨?_, .agg #[.int .i64 hk, .int .i64 ha, .int .i64 hb, .slice hao hgn hgc, .int .i64 n], by rw [HR.out], ?_⟩
    · iterate 9 (refine Below.setCell ?_ (by first | (show w.heap.size ≤ B; omega) | (show w.heap.size ≤ B + 1 + 1; omega)) _)
      exact H1.out.1
    · rw [HR.out]
      refine ⟨hk, ha, hb, hao, hgn, hgc, rfl, ?_, H1.out.2.2.2.2, HN.out.2.2⟩
      rw [← HSH.out]
      refine H1.out.2.1.kept fun b a c hs => ?_
      have m1 : b ≠ B := sub_far hs H1.out.2.2.1 (by decide)
      have m2 : b ≠ B + 1 + 1 := sub_far hs H1.out.2.2.2.1 (by decide)
      repeat (rw [Below.heap_setCell _ _ _ _ (by first | exact m1 | exact m2)])
  · have hf := faultG_not HN.out.1 hr
    have HR := Lib.hid (show lineOut (g0, n) (setR (g0, n) g) = (errName 1, (g0, n)) by unfold setR; rw [if_neg hr]; rfl)
    rw [hf]
    have HE := Lib.hid (error_any 1)
    have H1 := Lib.hid (And.intro hb1' (And.intro (HK.out.2.2.2.2.1.on hb1) k3))
    clear hb1 hb1' k1 k2 k3 hf hr
    go_wp2_with fail
    go_still_tail 3, (by kernel_rfl)
    still_call (HE.out _)
    repeat still_step
    refine wpStill_nil ?_
    go_wp2_with fail
    refine bodyPost_ret (v := .tuple #[.agg #[.int .i64 gK, .int .i64 xa, .int .i64 gb, .slice gao gn gc, .int .i64 n], str (errName 1)]) (by simp [results, Tryz.results21, go_sem, r0, r1, r2, r3, r4]) rfl ⟨?_, .agg #[.int .i64 gK, .int .i64 xa, .int .i64 gb, .slice gao gn gc, .int .i64 n], by rw [HR.out], ?_⟩
    · repeat (first | with_reducible exact H1.out.1 | with_reducible refine Below.drew ?_ | refine Below.setCell ?_ (by show w.heap.size ≤ B + 1 + 1; omega) _)
    · rw [HR.out]
      refine ⟨gK, xa, gb, gao, gn, gc, rfl, ?_, HN.out.2.1, HN.out.2.2⟩
      refine H1.out.2.1.kept fun b a c hs => ?_
      have m2 : b ≠ B + 1 + 1 := sub_far hs H1.out.2.2 (by decide)
      (try simp only [drew_heap])
      repeat (rw [Below.heap_setCell _ _ _ _ m2])
end Go.Proofs.YtalbllijahiiiaaGreatDoor
end

section
namespace Go.Proofs.YtalbllijahiiiaaGreatDoor
open Go.RowKit Go.Mine Go.Mine.Desk

structure AN (w : World) (B : Nat) (g : G) (gK xa gb : Int) (gao : Option Addr) (gn gc : Nat) (n : Int) (W : World) : Prop where
  below : Below w.heap.size w W
  dsk : Blk W B 30 #[.int .i64 gK, .int .i64 xa, .int .i64 gb, .slice gao gn gc, .int .i64 n]
  res : Blk W (B + 1) 30 #[.int .i64 0, .int .i64 0, .int .i64 0, .slice none 0 0, .int .i64 0]
  gen : GenAt W (.agg #[.int .i64 gK, .int .i64 xa, .int .i64 gb, .slice gao gn gc]) g
theorem AN.on {w : World} {B : Nat} {g : G} {gK xa gb : Int} {gao : Option Addr} {gn gc : Nat} {n : Int} {W W' : World} (h : AN w B g gK xa gb gao gn gc n W) (hb : Below W.heap.size W W') : AN w B g gK xa gb gao gn gc n W' :=
  ⟨h.below.trans (hb.mono h.below.size), h.dsk.below hb, h.res.below hb, h.gen.on hb⟩
theorem AN.start {w w0 : World} {B : Nat} {g : G} {gK xa gb : Int} {gao : Option Addr} {gn gc : Nat} {n : Int} (hB : w.heap.size = B) (hv : GenAt w (.agg #[.int .i64 gK, .int .i64 xa, .int .i64 gb, .slice gao gn gc]) g)
    (hw : w0 = (w.alloc (.cells #[.int .i64 gK, .int .i64 xa, .int .i64 gb, .slice gao gn gc, .int .i64 n] 30)).alloc (.cells #[.int .i64 0, .int .i64 0, .int .i64 0, .slice none 0 0, .int .i64 0] 30)) : AN w B g gK xa gb gao gn gc n w0 := by
  have hb0 : Below w.heap.size w w0 := by rw [hw]; exact ((Below.refl w.heap.size w).alloc (Nat.le_refl _) _).alloc (by simp) _
  refine ⟨hb0, ?_, ?_, hv.on hb0⟩
  · rw [hw, ← hB]; exact (Blk.new _ _ _).alloc _
  · rw [hw, ← hB]; have := Blk.new (w.alloc (.cells #[.int .i64 gK, .int .i64 xa, .int .i64 gb, .slice gao gn gc, .int .i64 n] 30)) 30 #[.int .i64 0, .int .i64 0, .int .i64 0, .slice none 0 0, .int .i64 0]; simpa using this
theorem AN.told {w : World} {B : Nat} {g : G} {gK xa gb : Int} {gao : Option Addr} {gn gc : Nat} {n : Int} {W W' : World} (h : AN w B g gK xa gb gao gn gc n W) (hB : w.heap.size = B) (hg : g.right) (hn : near n) {t : Bytes} {p : Bytes × St} (hp : p = (t, (g, n)))
    (hW : W' = ((((W.setCell ⟨B + 1, 0, none⟩ (.int .i64 gK)).setCell ⟨B + 1, 1, none⟩ (.int .i64 xa)).setCell ⟨B + 1, 2, none⟩ (.int .i64 gb)).setCell ⟨B + 1, 3, none⟩ (.slice gao gn gc)).setCell ⟨B + 1, 4, none⟩ (.int .i64 n)) :
    AnsPost p w (.returned (.tuple #[.agg #[.int .i64 gK, .int .i64 xa, .int .i64 gb, .slice gao gn gc, .int .i64 n], str t])) W' := by
  subst hp
  refine ⟨?_, _, rfl, gK, xa, gb, gao, gn, gc, rfl, ?_, hg, hn⟩
  · rw [hW]
    iterate 5 (refine Below.setCell ?_ (by show w.heap.size ≤ B + 1; omega) _)
    exact h.below
  · refine h.gen.kept fun b a c hs => ?_
    have m2 : b ≠ B + 1 := sub_far hs h.res (by decide)
    rw [hW]
    repeat (rw [Below.heap_setCell _ _ _ _ m2])
theorem AnsPost.drew {p : Bytes × St} {w : World} {e : Ending} {W : World} (h : AnsPost p w e W) : AnsPost p w e W.drew := by
  obtain ⟨h1, v, h2, gK, xa, gb, gao, gn, gc, h3, h4, h5⟩ := h
  exact ⟨h1.drew, v, h2, gK, xa, gb, gao, gn, gc, h3, h4.on (Below.refl _ W).drew, h5⟩
theorem ValueText_any (x : V) (v : Value) (B0 : Nat) (w : World) (hv : ValAt w B0 v x) (hx : VOk x) : Calls Tryz.prog 17 #[v] w fun e w' => e = .returned (str (vtext x)) ∧ Below w.heap.size w w' := by
  cases x with
  | num z =>
    obtain rfl : v = numV' z := hv
    exact ValueText_num z (by have h1 := hx.1; have h2 := hx.2; unfold i64ok; omega) w
  | list zs =>
    obtain ⟨ao, c, rfl, h2⟩ := hv.open
    exact ValueText_list zs ao c (by have := hx.1; omega) (fun z hz => by have h1 := (hx.2 z hz).1; have h2 := (hx.2 z hz).2; unfold i64ok; omega) w h2
theorem cuts_single {s x : Bytes} (h : cuts 32 s = [x]) : s = x := by
  have h1 := cuts_none 32 s (cuts_one (by rw [h]; rfl))
  rw [h] at h1
  simpa using h1.symm
theorem told2 {w W W' : World} {B : Nat} (hb : Below w.heap.size w W) (hB : w.heap.size = B) {cs : Array Value} (hres : Blk W (B + 1) 30 cs) {p : Bytes × St} {aK a1 a2 : Int} {a3 : Option Addr} {a4 a5 : Nat} (hgen : GenAt W (.agg #[.int .i64 aK, .int .i64 a1, .int .i64 a2, .slice a3 a4 a5]) p.2.1) (hr : p.2.1.right) (hn : near p.2.2)
    (hW : W' = ((((W.setCell ⟨B + 1, 0, none⟩ (.int .i64 aK)).setCell ⟨B + 1, 1, none⟩ (.int .i64 a1)).setCell ⟨B + 1, 2, none⟩ (.int .i64 a2)).setCell ⟨B + 1, 3, none⟩ (.slice a3 a4 a5)).setCell ⟨B + 1, 4, none⟩ (.int .i64 p.2.2)) :
    AnsPost p w (.returned (.tuple #[.agg #[.int .i64 aK, .int .i64 a1, .int .i64 a2, .slice a3 a4 a5, .int .i64 p.2.2], str p.1])) W' := by
  refine ⟨?_, _, rfl, aK, a1, a2, a3, a4, a5, rfl, ?_, hr, hn⟩
  · rw [hW]
    iterate 5 (refine Below.setCell ?_ (by show w.heap.size ≤ B + 1; omega) _)
    exact hb
  · refine hgen.kept fun b a c hs => ?_
    have m2 : b ≠ B + 1 := sub_far hs hres (by decide)
    rw [hW]
    repeat (rw [Below.heap_setCell _ _ _ _ m2])
theorem word_none1 {p : Bytes} (h : numV p = none) : wordV p = none := by unfold wordV; rw [h]
theorem word_none2 {p : Bytes} {v : Int} (h : numV p = some v) (h2 : v < -1073741824 ∨ 1073741824 < v) : wordV p = none := by unfold wordV; rw [h]; simp only; rw [if_pos h2]
theorem word_some {p : Bytes} {v : Int} (h : numV p = some v) (h2 : ¬ v < -1073741824) (h3 : ¬ 1073741824 < v) : wordV p = some v := by unfold wordV; rw [h]; simp only; rw [if_neg (by omega)]
structure LN (w1 W : World) (Q : Nat) (args : List Bytes) (i : Nat) (zs : List Int) (nv : Value) : Prop where
  below : Below w1.heap.size w1 W
  row : W.ownsRow Q 3 1 nv zs.length (zs.map (.int .i64))
  len : zs.length + 1 = i
  all : ∀ j, j < zs.length → wordV (args.getD j []) = some (zs.getD j 0)
  size : Q ≤ W.heap.size
def RunHow (g : G) (n sd many r : Int) (bb : Bool) (uo : Option Addr) (ul : Nat) (k : Int) (w' : World) : Prop :=
  (bb = false ∧ runF g n many.toNat (Seed.new sd) 0 = (r, none)) ∨ (bb = true ∧ ∃ l, runF g n many.toNat (Seed.new sd) 0 = (r, some (l, k)) ∧ i64ok k ∧ l.length ≤ 6 ∧ tape1 l ∧ ul = l.length ∧ IntsAt .i64 w' uo l ∧ Ty3 w' uo)
theorem RunHow.on {g : G} {n sd many r : Int} {bb : Bool} {uo : Option Addr} {ul : Nat} {k : Int} {w w' : World} (h : RunHow g n sd many r bb uo ul k w) (hb : Below w.heap.size w w') : RunHow g n sd many r bb uo ul k w' := by
  rcases h with h | ⟨h1, l, h2, h3, h4, h5, h6, h7, h8⟩
  · exact .inl h
  · exact .inr ⟨h1, l, h2, h3, h4, h5, h6, ints_keep h7 hb, h8.on hb⟩
theorem RunHow.stored {g : G} {n sd many r : Int} {bb : Bool} {uo : Option Addr} {ul : Nat} {k : Int} {w : World} {Q : Nat} {T : TypeId} {cs : Array Value} {v0 v1 v2 v3 : Value} (h : RunHow g n sd many r bb uo ul k w) (kb : Blk w Q T cs) (hT : T ≠ 3) : RunHow g n sd many r bb uo ul k ((((w.setCell ⟨Q, 0, none⟩ v0).setCell ⟨Q, 1, none⟩ v1).setCell ⟨Q, 2, none⟩ v2).setCell ⟨Q, 3, none⟩ v3) := by
  rcases h with h | ⟨h1, l, h2, h3, h4, h5, h6, h7, h8⟩
  · exact .inl h
  · have hs : ∀ b, b ≠ Q → ((((w.setCell ⟨Q, 0, none⟩ v0).setCell ⟨Q, 1, none⟩ v1).setCell ⟨Q, 2, none⟩ v2).setCell ⟨Q, 3, none⟩ v3).heap[b]? = w.heap[b]? := fun b hb => by
      repeat (rw [Below.heap_setCell _ _ _ _ hb])
    refine .inr ⟨h1, l, h2, h3, h4, h5, h6, fun j hj => ?_, fun b o e => ?_⟩
    · obtain ⟨b, o, e, hc⟩ := h7 j hj
      refine ⟨b, o, e, ?_⟩
      rw [← hc]
      refine World.cell?_of_block ?_
      show _ = w.heap[b]?
      exact hs b (h8.ne kb hT e)
    · obtain ⟨cs', hc⟩ := h8 b o e
      exact ⟨cs', (hs b (h8.ne kb hT e)).trans hc⟩
def RunAll (g : G) (n sd many : Int) (w : World) (e : Ending) (w' : World) : Prop :=
  Below w.heap.size w w' ∧ ∃ r bb uo ul uc k, e = .returned (.agg #[.int .i64 r, .bool bb, .slice uo ul uc, .int .i64 k]) ∧ i64ok r ∧ RunHow g n sd many r bb uo ul k w'
theorem RunOfPost.all {g : G} {n sd many : Int} {w : World} {e : Ending} {w' : World} (h : RunOfPost g n sd many w e w') : RunAll g n sd many w e w' := by
  obtain ⟨hb, ⟨r, h1, h2, h3⟩ | ⟨r, l, k, uo, uc, h1, h2, h3, h4, h5, h6, h7, h8⟩⟩ := h
  · exact ⟨hb, r, false, none, 0, 0, 0, h3, h2, .inl ⟨rfl, h1⟩⟩
  · exact ⟨hb, r, true, uo, l.length, uc, k, h6, h2, .inr ⟨rfl, l, h1, h3, h4, h5, rfl, h7, h8⟩⟩
theorem text_ne {a b : Bytes} (h : a ≠ b) : ¬ (⟨a.toArray⟩ : ByteArray) = ⟨b.toArray⟩ := fun e => h (by
  have := congrArg (fun x : ByteArray => x.data.toList) e
  simpa using this)
end Go.Proofs.YtalbllijahiiiaaGreatDoor
end

section
namespace Go.Proofs.YtalbllijahiiiaaGreatDoor
open Go.RowKit Go.Mine Go.Mine.Desk

set_option maxRecDepth 100000 in
set_option maxHeartbeats 4000000 in
theorem ans_count (g : G) (n : Int) (hg : g.right) (hn : near n) (gK xa gb : Int) (gao : Option Addr) (gn gc : Nat) (s : Bytes) (hs : s.length ≤ 1100000) (hc : s = kCount) (w : World) (hv : GenAt w (.agg #[.int .i64 gK, .int .i64 xa, .int .i64 gb, .slice gao gn gc]) g) :
    Calls Tryz.prog 8 #[.agg #[.int .i64 gK, .int .i64 xa, .int .i64 gb, .slice gao gn gc, .int .i64 n], str s] w (AnsPost (lineR (g, n) s) w) := by
  obtain ⟨w0, hw0⟩ : ∃ w0, w0 = (w.alloc (.cells #[.int .i64 gK, .int .i64 xa, .int .i64 gb, .slice gao gn gc, .int .i64 n] 30)).alloc (.cells #[.int .i64 0, .int .i64 0, .int .i64 0, .slice none 0 0, .int .i64 0] 30) := ⟨_, rfl⟩
  obtain ⟨B, hB⟩ : ∃ B, w.heap.size = B := ⟨_, rfl⟩
  have HA0 := Lib.hid (AN.start hB hv hw0)
  have HC := Lib.hid (show Calls Tryz.prog 7 #[str s, .int .u8 32] w0 (fun e w' => (∃ v, e = .returned v ∧ w'.ownsRow w0.heap.size 9 1 v (cuts 32 s).length ((cuts 32 s).map str)) ∧ Below w0.heap.size w0 w') from by
    have h := Cut_any s 32 hs w0
    rw [show (((32 : UInt8).toNat : Nat) : Int) = 32 from rfl] at h
    exact h)
  have HW := Lib.hid hw0
  have HGN := Lib.hid (And.intro hg hn)
  clear hw0 hv hg hn
  have HR := Lib.hid (show lineR (g, n) s = lineOut (g, n) (countR (g, n)) by rw [hc]; rfl)
  obtain ⟨ml, hml⟩ : ∃ ml, (cuts 32 s).length = ml := ⟨_, rfl⟩
  rw [hml] at HC
  have hsc : (s == [99, 111, 117, 110, 116]) = true := by rw [hc]; rfl
  have HCB := Lib.hid (cnt_b HGN.out.1)
  clear hc hml hs
  go_enter Tryz.func8, Tryz.ntmps8
  go_upto_region 1 with fail
  rw [← HW.out]
  go_wp2_with fail
  refine HC.out.mono ?_
  clear HC
  rintro e w1 ⟨⟨v, rfl, hown⟩, hb1⟩
  obtain ⟨ro, rc, rfl⟩ := owns_shape hown
  have HA1 := Lib.hid (HA0.out.on hb1)
  have HK1 := Lib.hid (CountOf_any g (.agg #[.int .i64 gK, .int .i64 xa, .int .i64 gb, .slice gao gn gc]) HGN.out.1 w1 HA1.out.gen)
  clear hown hb1
  have c0 : w1.cell? ⟨B, 0, none⟩ = some (.int .i64 gK) := HA1.out.dsk.cell 0
  have c1 : w1.cell? ⟨B, 1, none⟩ = some (.int .i64 xa) := HA1.out.dsk.cell 1
  have c2 : w1.cell? ⟨B, 2, none⟩ = some (.int .i64 gb) := HA1.out.dsk.cell 2
  have c3 : w1.cell? ⟨B, 3, none⟩ = some (.slice gao gn gc) := HA1.out.dsk.cell 3
  have c4 : w1.cell? ⟨B, 4, none⟩ = some (.int .i64 n) := HA1.out.dsk.cell 4
  go_wp2_with fail
  refine HK1.out.mono ?_
  clear HK1
  rintro e w2 ⟨rfl, hb2⟩
  have HA2 := Lib.hid (HA1.out.on hb2)
  obtain ⟨k, hk⟩ : ∃ k, cnt g = k := ⟨_, rfl⟩
  have HKK := Lib.hid hk
  have hkb := HCB.out
  rw [hk] at hkb ⊢
  clear hb2 hk
  clear c0 c1 c2 c3 c4
  have c0 : w2.cell? ⟨B, 0, none⟩ = some (.int .i64 gK) := HA2.out.dsk.cell 0
  have c1 : w2.cell? ⟨B, 1, none⟩ = some (.int .i64 xa) := HA2.out.dsk.cell 1
  have c2 : w2.cell? ⟨B, 2, none⟩ = some (.int .i64 gb) := HA2.out.dsk.cell 2
  have c3 : w2.cell? ⟨B, 3, none⟩ = some (.slice gao gn gc) := HA2.out.dsk.cell 3
  have c4 : w2.cell? ⟨B, 4, none⟩ = some (.int .i64 n) := HA2.out.dsk.cell 4
  by_cases hbig : 1048576 < k
  · have d1 : decide (1048576 < k) = true := decide_eq_true hbig
    have HP := Lib.hid (show lineR (g, n) s = ([69, 114, 114, 70, 117, 108, 108], (g, n)) by rw [HR.out]; unfold countR; rw [if_neg (by rw [show (g, n).1 = g from rfl, HKK.out]; omega)]; rfl)
    have r0 : w2.cell? ⟨B + 1, 0, none⟩ = some (.int .i64 0) := HA2.out.res.cell 0
    have r1 : w2.cell? ⟨B + 1, 1, none⟩ = some (.int .i64 0) := HA2.out.res.cell 1
    have r2 : w2.cell? ⟨B + 1, 2, none⟩ = some (.int .i64 0) := HA2.out.res.cell 2
    have r3 : w2.cell? ⟨B + 1, 3, none⟩ = some (.slice none 0 0) := HA2.out.res.cell 3
    have r4 : w2.cell? ⟨B + 1, 4, none⟩ = some (.int .i64 0) := HA2.out.res.cell 4
    have rf0 : w2.frozen? ⟨B + 1, 0, none⟩ = false := HA2.out.res.froz 0
    have rf1 : w2.frozen? ⟨B + 1, 1, none⟩ = false := HA2.out.res.froz 1
    have rf2 : w2.frozen? ⟨B + 1, 2, none⟩ = false := HA2.out.res.froz 2
    have rf3 : w2.frozen? ⟨B + 1, 3, none⟩ = false := HA2.out.res.froz 3
    have rf4 : w2.frozen? ⟨B + 1, 4, none⟩ = false := HA2.out.res.froz 4
    go_wp2_with fail
    refine bodyPost_ret (v := .tuple #[.agg #[.int .i64 gK, .int .i64 xa, .int .i64 gb, .slice gao gn gc, .int .i64 n], str ([69, 114, 114, 70, 117, 108, 108])]) (by simp [results, Tryz.results8, go_sem, r0, r1, r2, r3, r4]) rfl ?_
    first | exact HA2.out.told hB HGN.out.1 HGN.out.2 HP.out rfl | exact (HA2.out.told hB HGN.out.1 HGN.out.2 HP.out rfl).drew
  · have d1 : decide (1048576 < k) = false := decide_eq_false hbig
    have HP := Lib.hid (show lineR (g, n) s = (Go.Lib.itoa k, (g, n)) by rw [HR.out]; unfold countR; rw [if_pos (by rw [show (g, n).1 = g from rfl, HKK.out]; omega)]; rw [← HKK.out]; rfl)
    have HDG := Lib.hid (Digits_any k (by unfold i64ok; omega) w2.drew)
    have HSK := Lib.hid (show ∀ w' : World, Below w2.heap.size w2 w' → (w'.cell? ⟨B, 0, none⟩ = some (.int .i64 gK) ∧ w'.cell? ⟨B, 1, none⟩ = some (.int .i64 xa) ∧ w'.cell? ⟨B, 2, none⟩ = some (.int .i64 gb) ∧ w'.cell? ⟨B, 3, none⟩ = some (.slice gao gn gc) ∧ w'.cell? ⟨B, 4, none⟩ = some (.int .i64 n)) from fun w' hb => ⟨(HA2.out.dsk.below hb).cell 0, (HA2.out.dsk.below hb).cell 1, (HA2.out.dsk.below hb).cell 2, (HA2.out.dsk.below hb).cell 3, (HA2.out.dsk.below hb).cell 4⟩)
    go_wp2_with fail
    refine wp_region_held_drew (S := fun w' => w'.cell? ⟨B, 0, none⟩ = some (.int .i64 gK) ∧ w'.cell? ⟨B, 1, none⟩ = some (.int .i64 xa) ∧ w'.cell? ⟨B, 2, none⟩ = some (.int .i64 gb) ∧ w'.cell? ⟨B, 3, none⟩ = some (.slice gao gn gc) ∧ w'.cell? ⟨B, 4, none⟩ = some (.int .i64 n)) (by kernel_rfl) ?hSR1_0 (fun hHeld => ?_)
    case hSR1_0 =>
      exact HSK.out _ ((Below.refl _ _).drew)
    refine wpAnyH_take (i := 0) (v := ?vvR1_0) rfl (by kernel_rfl) (by kernel_rfl) (by kernel_rfl) (fun _ _ _ h => h) (Or.inl ⟨by rfl, ?hyR1_0⟩) (by assumption) ?restR1_0
    case hyR1_0 => ((intro w hSw; (try dsimp only at hSw); go_simp) <;> with_reducible rfl)
    try simp only [sA, sC, Act.put, sD, sE, sF]
    refine wpAnyH_take (i := 1) (v := ?vvR1_1) rfl (by kernel_rfl) (by kernel_rfl) (by kernel_rfl) (fun _ _ _ h => h) (Or.inl ⟨by rfl, ?hyR1_1⟩) (by assumption) ?restR1_1
    case hyR1_1 => ((intro w hSw; (try dsimp only at hSw); go_simp) <;> with_reducible rfl)
    try simp only [sA, sB, sC, Act.put, sD, sE, sF]
    refine wpAnyH_ready (rs := [2]) (by kernel_rfl) (by simp) ?_
    refine AllReadyH.cons rfl (fun K hK => ?_) AllReadyH.nil
    go_simp
    go_at_call 14
    refine (HDG.out).mono ?_
    rintro e w3 ⟨rfl, hb3⟩
    have hb3' : Below w2.heap.size w2 w3 := ((Below.refl _ w2).drew).trans hb3
    have HA3 := Lib.hid (HA2.out.on hb3')
    have HB3 := Lib.hid hb3'
    clear hb3 hb3'
    have r0 : w3.cell? ⟨B + 1, 0, none⟩ = some (.int .i64 0) := HA3.out.res.cell 0
    have r1 : w3.cell? ⟨B + 1, 1, none⟩ = some (.int .i64 0) := HA3.out.res.cell 1
    have r2 : w3.cell? ⟨B + 1, 2, none⟩ = some (.int .i64 0) := HA3.out.res.cell 2
    have r3 : w3.cell? ⟨B + 1, 3, none⟩ = some (.slice none 0 0) := HA3.out.res.cell 3
    have r4 : w3.cell? ⟨B + 1, 4, none⟩ = some (.int .i64 0) := HA3.out.res.cell 4
    have rf0 : w3.frozen? ⟨B + 1, 0, none⟩ = false := HA3.out.res.froz 0
    have rf1 : w3.frozen? ⟨B + 1, 1, none⟩ = false := HA3.out.res.froz 1
    have rf2 : w3.frozen? ⟨B + 1, 2, none⟩ = false := HA3.out.res.froz 2
    have rf3 : w3.frozen? ⟨B + 1, 3, none⟩ = false := HA3.out.res.froz 3
    have rf4 : w3.frozen? ⟨B + 1, 4, none⟩ = false := HA3.out.res.froz 4
    refine hK.out _ _ ?hSR1_2 (fun hHeld => ?_)
    case hSR1_2 => exact HSK.out _ HB3.out
    clear hK K
    try simp only [sA, sB, sC, Act.put, sD, sE, sF]
    refine wpAnyH_ready (rs := [3]) (by kernel_rfl) (by simp) ?_
    refine AllReadyH.cons rfl (fun K hK => ?_) AllReadyH.nil
    go_simp
    refine hK.out _ _ ?hSR1_3 (fun hHeld => ?_)
    case hSR1_3 => go_keep
    clear hK K
    try simp only [sA, sB, sC, Act.put, sD, sE, sF]
    refine wpAnyH_take (i := 4) (v := ?vvR1_4) rfl (by kernel_rfl) (by kernel_rfl) (by kernel_rfl) (fun _ _ _ h => h) (Or.inl ⟨by rfl, ?hyR1_4⟩) (by assumption) ?restR1_4
    case hyR1_4 => ((intro w hSw; (try dsimp only at hSw); go_simp) <;> with_reducible rfl)
    try simp only [sA, sB, sC, Act.put, sD, sE, sF]
    refine wpAnyH_done (by kernel_rfl) ?_ _
    go_wp2_with fail
    refine bodyPost_ret (v := .tuple #[.agg #[.int .i64 gK, .int .i64 xa, .int .i64 gb, .slice gao gn gc, .int .i64 n], str (Go.Lib.itoa k)]) (by simp [results, Tryz.results8, go_sem, r0, r1, r2, r3, r4]) rfl ?_
    first | exact HA3.out.told hB HGN.out.1 HGN.out.2 HP.out rfl | exact (HA3.out.told hB HGN.out.1 HGN.out.2 HP.out rfl).drew
end Go.Proofs.YtalbllijahiiiaaGreatDoor
end
