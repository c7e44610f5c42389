/- The desk's block; (*desk).set; forms$3 (limit), forms$4 (count); must at a report. -/
import Derived.Test.YtalbllijahiiiaaGreatDoorDkAP
import Derived.Test.YtalbllijahiiiaaGreatDoorDkAN
import Derived.Test.YtalbllijahiiiaaGreatDoorDkAO
namespace Go.Proofs.YtalbllijahiiiaaGreatDoor
open Go.RowKit Go.Mine Go.Mine.Desk

theorem sA {α : Type} {xs : List α} {i : Nat} (h : i < xs.toArray.size) : xs.toArray[i] = xs[i]'(by simpa using h) := List.getElem_toArray h
theorem sB {α : Type} {a : α} {l : List α} {i : Nat} (h : i + 1 < (a :: l).length) : (a :: l)[i + 1] = l[i]'(by simpa using h) := List.getElem_cons_succ a l i h
theorem sC {α : Type} {a : α} {l : List α} (h : 0 < (a :: l).length) : (a :: l)[0] = a := List.getElem_cons_zero a l h
theorem sD {α : Type} (l : List α) (i : Nat) (a : α) : l.toArray.setIfInBounds i a = (l.set i a).toArray := List.setIfInBounds_toArray l i a
theorem sE {α : Type} {x : α} {xs : List α} {a : α} : (x :: xs).set 0 a = a :: xs := List.set_cons_zero
theorem sF {α : Type} {x : α} {xs : List α} {n : Nat} {a : α} : (x :: xs).set (n + 1) a = x :: xs.set n a := List.set_cons_succ
structure DV where
  gk : Int
  ga : Int
  gb : Int
  gao : Option Addr
  gn : Nat
  gc : Nat
  eb : Nat
def DV.gen (d : DV) : Value := .agg #[.int .i64 d.gk, .int .i64 d.ga, .int .i64 d.gb, .slice d.gao d.gn d.gc]
def DV.cells (d : DV) : Array Value := #[.int .i64 d.gk, .int .i64 d.ga, .int .i64 d.gb, .slice d.gao d.gn d.gc, .int .i64 7, .int .i64 0, .slice (some ⟨d.eb, 0, none⟩) 2 2]
structure DeskIs (w : World) (db : Nat) (d : DV) (g : G) (n : Int) : Prop where
  blk : Blk w db 44 d.cells
  gen : GenAt w d.gen g
  expr : ExprAt w d.eb n
  right : g.right
  lim : near n
def DeskAt (w : World) (db : Nat) (g : G) (n : Int) : Prop := ∃ d, DeskIs w db d g n
theorem DeskIs.on {w w' : World} {db : Nat} {d : DV} {g : G} {n : Int} (h : DeskIs w db d g n) (hb : Below w.heap.size w w') : DeskIs w' db d g n :=
  ⟨h.blk.below hb, h.gen.on hb, (show Blk w d.eb _ _ from h.expr).below hb, h.right, h.lim⟩
theorem DeskIs.at {w : World} {db : Nat} {d : DV} {g : G} {n : Int} (h : DeskIs w db d g n) : DeskAt w db g n := ⟨d, h⟩
theorem GenAt.kept {w w' : World} {v : Value} {g : G} (h : GenAt w v g) (hs : ∀ b a c, SubAt w b a c → w'.heap[b]? = w.heap[b]?) : GenAt w' v g := by
  cases g with
  | int a b => exact h
  | many n a b =>
    obtain ⟨gb, h1, h2⟩ := h
    exact ⟨gb, h1, (hs gb a b h2).trans h2⟩
theorem desk_sub {w : World} {db b : Nat} {cs : Array Value} {x y : Int} (h : Blk w db 44 cs) (hs : SubAt w b x y) : b ≠ db := by
  rintro rfl
  have h1 : w.heap[b]? = _ := h
  have h2 : w.heap[b]? = _ := hs
  rw [h1] at h2
  simp at h2
theorem desk_expr {w : World} {db b : Nat} {cs : Array Value} {n : Int} (h : Blk w db 44 cs) (hs : ExprAt w b n) : b ≠ db := by
  rintro rfl
  have h1 : w.heap[b]? = _ := h
  have h2 : w.heap[b]? = _ := hs
  rw [h1] at h2
  simp at h2
theorem DeskIs.store {w : World} {db : Nat} {d : DV} {g : G} {n : Int} (h : DeskIs w db d g n) (i : Nat) (v : Value) :
    (∀ u g', GenAt w u g' → GenAt (w.setCell ⟨db, i, none⟩ v) u g') ∧ (∀ b m, ExprAt w b m → ExprAt (w.setCell ⟨db, i, none⟩ v) b m) ∧ Tch (fun k => k = db) w (w.setCell ⟨db, i, none⟩ v) :=
  ⟨fun _ _ hg => hg.kept fun b _ _ hs => Below.heap_setCell w ⟨db, i, none⟩ v b (desk_sub h.blk hs), fun b _ he => (Below.heap_setCell w ⟨db, i, none⟩ v b (desk_expr h.blk he)).trans he, Tch.set (S := fun k => k = db) (p := ⟨db, i, none⟩) (Tch.refl _ w) (.inl rfl) v⟩
abbrev St := G × Int
def FormPost (st : St) (r : Except Int (Bytes × St)) (db : Nat) (w : World) (e : Ending) (w' : World) : Prop :=
  Tch (fun k => k = db) w w' ∧ ((∃ out st', r = .ok (out, st') ∧ e = .returned (str out) ∧ DeskAt w' db st'.1 st'.2) ∨ (∃ c, r = .error c ∧ e = panics c ∧ DeskAt w' db st.1 st.2))
def okT : Bytes := [111, 107]
def setR (st : St) (g : G) : Except Int (Bytes × St) := if g.right then .ok (okT, (g, st.2)) else .error 1
theorem faultG_not {g : G} (hn : g.near) (h : ¬ g.right) : faultG g = 1 := by
  rcases faultG_cases g with h0 | h1
  · exact absurd (fault_right hn h0) h
  · exact h1
set_option maxRecDepth 100000 in
set_option maxHeartbeats 2000000 in
theorem dset_any (db : Nat) (d : DV) (g0 : G) (n : Int) (g : G) (v : Value) (hn : g.near) (w : World) (hd : DeskIs w db d g0 n) (hv : GenAt w v g) :
    Calls Tryz.prog 44 #[.pointer (some ⟨db, 0, none⟩), v] w (FormPost (g0, n) (setR (g0, n) g) db w) := by
  obtain ⟨gk, ga, gb, gao, gn, gc, hsh⟩ := hv.shape
  obtain ⟨w0, hw0⟩ : ∃ w0, w0 = w.alloc (.cells #[.int .i64 gk, .int .i64 ga, .int .i64 gb, .slice gao gn gc] 28) := ⟨_, rfl⟩
  have hb0 : Below w.heap.size w w0 := by rw [hw0]; exact (Below.refl w.heap.size w).alloc (Nat.le_refl _) _
  have k0 : Blk w0 w.heap.size 28 #[.int .i64 gk, .int .i64 ga, .int .i64 gb, .slice gao gn gc] := by rw [hw0]; exact Blk.new _ _ _
  obtain ⟨B, hB⟩ : ∃ B, w.heap.size = B := ⟨_, rfl⟩
  have hdl : db < B := by rw [← hB]; exact hd.blk.lt
  rw [hB] at k0
  have HC0 := Lib.hid (check_any g v hn w0 (hv.on hb0))
  have HK := Lib.hid (And.intro hb0 (And.intro k0 (And.intro hd (And.intro hv hn))))
  have HW := Lib.hid hw0
  have HSH := Lib.hid hsh
  have c0 : w0.cell? ⟨B, 0, none⟩ = some (.int .i64 gk) := k0.cell 0
  have c1 : w0.cell? ⟨B, 1, none⟩ = some (.int .i64 ga) := k0.cell 1
  have c2 : w0.cell? ⟨B, 2, none⟩ = some (.int .i64 gb) := k0.cell 2
  have c3 : w0.cell? ⟨B, 3, none⟩ = some (.slice gao gn gc) := k0.cell 3
  rw [hsh] at HC0 ⊢
  rw [hw0] at HC0 c0 c1 c2 c3
  clear hw0 hb0 k0 hd hv hn hsh
  go_enter Tryz.func44, Tryz.ntmps44
  go_wp2_with fail
  refine HC0.out.mono ?_
  clear HC0
  rintro e w1 ⟨rfl, hb1⟩
  rw [← HW.out] at hb1
  have hb1' := HK.out.1.trans (hb1.mono HK.out.1.size)
  have k1 := HK.out.2.1.below hb1
  by_cases hr : g.right
  · have hf := right_fault hr
    have HM := Lib.hid (must_int 0 w1)
    have c0' : w1.cell? ⟨B, 0, none⟩ = some (.int .i64 gk) := k1.cell 0
    have c1' : w1.cell? ⟨B, 1, none⟩ = some (.int .i64 ga) := k1.cell 1
    have c2' : w1.cell? ⟨B, 2, none⟩ = some (.int .i64 gb) := k1.cell 2
    have c3' : w1.cell? ⟨B, 3, none⟩ = some (.slice gao gn gc) := k1.cell 3
    have hd1 := HK.out.2.2.1.on hb1'
    have e0 : w1.cell? ⟨db, 0, none⟩ = some (.int .i64 d.gk) := hd1.blk.cell 0
    have e1 : w1.cell? ⟨db, 1, none⟩ = some (.int .i64 d.ga) := hd1.blk.cell 1
    have e2 : w1.cell? ⟨db, 2, none⟩ = some (.int .i64 d.gb) := hd1.blk.cell 2
    have e3 : w1.cell? ⟨db, 3, none⟩ = some (.slice d.gao d.gn d.gc) := hd1.blk.cell 3
    have f0 := hd1.blk.froz 0
    have f1 := hd1.blk.froz 1
    have f2 := hd1.blk.froz 2
    have f3 := hd1.blk.froz 3
    have H1 := Lib.hid (And.intro hb1' (And.intro hd1 hr))
    rw [hf, errV_zero]
    clear hb1 hb1' k1 hd1 hr hf c0 c1 c2 c3
    go_wp2_with fail
    refine HM.out.mono ?_
    rintro e w2 ⟨rfl, rfl⟩
    go_wp2_with fail
    go_ret
    have hd := H1.out.2.1
    have s0 := hd.store 0 (.int .i64 gk)
    have hb : Blk ((((w2.setCell ⟨db, 0, none⟩ (.int .i64 gk)).setCell ⟨db, 1, none⟩ (.int .i64 ga)).setCell ⟨db, 2, none⟩ (.int .i64 gb)).setCell ⟨db, 3, none⟩ (.slice gao gn gc)) db 44 (DV.cells ⟨gk, ga, gb, gao, gn, gc, d.eb⟩) := by
      simpa [DV.cells] using (((hd.blk.set 0 (.int .i64 gk)).set 1 (.int .i64 ga)).set 2 (.int .i64 gb)).set 3 (.slice gao gn gc)
    have hlow : ∀ k, k ≠ db → ((((w2.setCell ⟨db, 0, none⟩ (.int .i64 gk)).setCell ⟨db, 1, none⟩ (.int .i64 ga)).setCell ⟨db, 2, none⟩ (.int .i64 gb)).setCell ⟨db, 3, none⟩ (.slice gao gn gc)).heap[k]? = w2.heap[k]? := fun k hk => by
      rw [Below.heap_setCell _ ⟨db, 3, none⟩ _ k hk, Below.heap_setCell _ ⟨db, 2, none⟩ _ k hk, Below.heap_setCell _ ⟨db, 1, none⟩ _ k hk, Below.heap_setCell _ ⟨db, 0, none⟩ _ k hk]
    refine ⟨((((Tch.of_below (S := fun k => k = db) H1.out.1).set (.inl rfl) _).set (.inl rfl) _).set (.inl rfl) _).set (.inl rfl) _, .inl ⟨okT, (g, n), by unfold setR; rw [if_pos H1.out.2.2], rfl, ⟨gk, ga, gb, gao, gn, gc, d.eb⟩, hb, ?_, ?_, H1.out.2.2, hd.lim⟩⟩
    · have hgv := HK.out.2.2.2.1.on H1.out.1
      rw [HSH.out] at hgv
      exact hgv.kept fun b _ _ hs => hlow b (desk_sub hd.blk hs)
    · exact (hlow _ (desk_expr hd.blk hd.expr)).trans hd.expr
  · have hf := faultG_not HK.out.2.2.2.2 hr
    have HM := Lib.hid (must_int_err (.int .i64 0) 1 w1)
    have H1 := Lib.hid (And.intro hb1' (And.intro (HK.out.2.2.1.on hb1') hr))
    rw [hf, errV_ne (by decide)]
    clear hb1 hb1' k1 hr hf c0 c1 c2 c3
    go_wp2_with fail
    refine HM.out.mono ?_
    rintro e w2 ⟨rfl, rfl⟩
    go_simp
    exact body_panics ⟨Tch.of_below H1.out.1, .inr ⟨1, by unfold setR; rw [if_neg H1.out.2.2], rfl, H1.out.2.1.at⟩⟩

set_option maxRecDepth 100000 in
set_option maxHeartbeats 1000000 in
theorem must_rep (r : Int) (b : Bool) (ao : Option Addr) (n c : Nat) (k : Int) (w : World) : Calls Tryz.prog 97 #[.agg #[.int .i64 r, .bool b, .slice ao n c, .int .i64 k], .nilIface] w fun e w' => e = .returned (.agg #[.int .i64 r, .bool b, .slice ao n c, .int .i64 k]) ∧ Below w.heap.size w w' := by
  have hnn := neq_nil
  go_enter Tryz.func97, Tryz.ntmps97
  go_wp2_with fail
  refine bodyPost_ret (v := .agg #[.int .i64 r, .bool b, .slice ao n c, .int .i64 k]) (by simp [results, Tryz.results97, go_sem]) rfl ⟨rfl, ?_⟩
  exact ((Below.refl w.heap.size w).alloc (Nat.le_refl _) _).alloc (by simp) _
set_option maxRecDepth 100000 in
set_option maxHeartbeats 1000000 in
theorem must_rep_err (r : Int) (b : Bool) (ao : Option Addr) (n c : Nat) (k cc : Int) (w : World) : Calls Tryz.prog 97 #[.agg #[.int .i64 r, .bool b, .slice ao n c, .int .i64 k], .iface 36 (.int .i64 cc)] w fun e w' => e = panics cc ∧ Below w.heap.size w w' := by
  have h1 := neq_errno cc
  have HB := Lib.hid (show Below w.heap.size w ((w.alloc (.cells #[.int .i64 r, .bool b, .slice ao n c, .int .i64 k] 66)).alloc (.cells #[.int .i64 0, .bool false, .slice none 0 0, .int .i64 0] 66)) from ((Below.refl w.heap.size w).alloc (Nat.le_refl _) _).alloc (by simp) _)
  go_enter Tryz.func97, Tryz.ntmps97
  go_wp2_with fail
  exact body_panics ⟨rfl, HB.out⟩
/-! ### limit, count -/
def limitR (st : St) (x : Bytes) : Except Int (Bytes × St) := match wordV x with | some n => .ok (okT, (st.1, n)) | none => .error 7
def countR (st : St) : Except Int (Bytes × St) := if cnt st.1 ≤ 1048576 then .ok (Go.Lib.itoa (cnt st.1), st) else .error 4
set_option maxRecDepth 100000 in
set_option maxHeartbeats 2000000 in
theorem form4_any (db : Nat) (g : G) (n : Int) (wo : Option Addr) (wn wc : Nat) (w : World) (hg : Gl w) (hd : DeskAt w db g n) :
    Calls Tryz.prog 47 #[.pointer (some ⟨db, 0, none⟩), .slice wo wn wc] w (FormPost (g, n) (countR (g, n)) db w) := by
  obtain ⟨d, hd⟩ := hd
  have e0 : w.cell? ⟨db, 0, none⟩ = some (.int .i64 d.gk) := hd.blk.cell 0
  have e1 : w.cell? ⟨db, 1, none⟩ = some (.int .i64 d.ga) := hd.blk.cell 1
  have e2 : w.cell? ⟨db, 2, none⟩ = some (.int .i64 d.gb) := hd.blk.cell 2
  have e3 : w.cell? ⟨db, 3, none⟩ = some (.slice d.gao d.gn d.gc) := hd.blk.cell 3
  have HC := Lib.hid (gCount_any g d.gen hd.right w hd.gen)
  have HD := Lib.hid (And.intro hd hg)
  unfold DV.gen at HC
  have hct : countX g = .tuple #[.int .i64 (cnt g), .nilIface] ∧ cnt g ≤ 1048576 ∨ countX g = .tuple #[.int .i64 0, .iface 36 (.int .i64 4)] ∧ ¬ cnt g ≤ 1048576 := by
    unfold countX
    by_cases h : cnt g ≤ 1048576
    · rw [if_pos h]; exact .inl ⟨rfl, h⟩
    · rw [if_neg h]; exact .inr ⟨rfl, h⟩
  have hcb := cnt_b hd.right
  clear hd hg
  go_enter Tryz.func47, Tryz.ntmps47
  go_wp2_with fail
  refine HC.out.mono ?_
  clear HC
  rintro e w1 ⟨rfl, hb1⟩
  obtain ⟨N, hN⟩ : ∃ N, N = cnt g := ⟨_, rfl⟩
  rw [← hN] at hct hcb
  have H1 := Lib.hid (And.intro hb1 hN)
  clear hb1 hN
  rcases hct with ⟨hcx, hcn⟩ | ⟨hcx, hcn⟩
  · rw [hcx]
    have HM := Lib.hid (must_int N w1)
    have HI := Lib.hid (itoa_any N ⟨by omega, by omega⟩ w1 (HD.out.2.on H1.out.1))
    have HP := Lib.hid hcn
    clear hcx hcn hcb
    go_wp2_with fail
    refine HM.out.mono ?_
    rintro e w2 ⟨rfl, rfl⟩
    go_wp2_with fail
    refine HI.out.mono ?_
    clear HI
    rintro e w3 ⟨rfl, hb3⟩
    have H3 := Lib.hid (H1.out.1.trans (hb3.mono H1.out.1.size))
    clear hb3
    go_wp2_with fail
    go_ret
    exact ⟨Tch.of_below H3.out, .inl ⟨_, (g, n), by unfold countR; rw [if_pos (by rw [← H1.out.2]; exact HP.out), ← H1.out.2], rfl, (HD.out.1.on H3.out).at⟩⟩
  · rw [hcx]
    have HM := Lib.hid (must_int_err (.int .i64 0) 4 w1)
    have HP := Lib.hid hcn
    clear hcx hcn hcb
    go_wp2_with fail
    refine HM.out.mono ?_
    rintro e w2 ⟨rfl, rfl⟩
    go_simp
    exact body_panics ⟨Tch.of_below H1.out.1, .inr ⟨4, by unfold countR; rw [if_neg (by rw [← H1.out.2]; have := HP.out; omega)], rfl, (HD.out.1.on H1.out.1).at⟩⟩
set_option maxRecDepth 100000 in
set_option maxHeartbeats 2000000 in
theorem form3_any (db : Nat) (g : G) (n : Int) (wo : Option Addr) (wc : Nat) (x : Bytes) (hx : x.length ≤ 1100000) (w : World) (hg : Gl w) (hd : DeskAt w db g n) (hw : StrsAt w wo [x]) :
    Calls Tryz.prog 46 #[.pointer (some ⟨db, 0, none⟩), .slice wo 1 wc] w (FormPost (g, n) (limitR (g, n) x) db w) := by
  obtain ⟨d, hd⟩ := hd
  obtain ⟨b, o, rfl, hc⟩ := hw 0 (by simp)
  have hc0 : w.cell? ⟨b, o, none⟩ = some (str x) := hc
  have HN := Lib.hid (number_any x (by omega) w hg)
  have HD := Lib.hid hd
  clear hc hd hg hw
  go_enter Tryz.func46, Tryz.ntmps46
  go_wp2_with fail
  refine HN.out.mono ?_
  clear HN
  rintro e w1 ⟨he, hb1⟩
  cases hv : wordV x with
  | none =>
    have hp := he.err (show numX x = .error 7 by unfold numX; rw [hv])
    subst hp
    have H1 := Lib.hid (And.intro hb1 hv)
    clear he hb1 hv
    go_simp
    exact body_panics ⟨Tch.of_below H1.out.1, .inr ⟨7, by unfold limitR; rw [H1.out.2], rfl, (HD.out.on H1.out.1).at⟩⟩
  | some m =>
    have hp := he.ok (show numX x = .ok (.int .i64 m) by unfold numX; rw [hv])
    subst hp
    have hd1 := HD.out.on hb1
    have HL := Lib.hid (limit_any m w1)
    have H1 := Lib.hid (And.intro hb1 (And.intro hv hd1))
    clear he hb1 hv hd1
    go_wp2_with fail
    refine HL.out.mono ?_
    clear HL
    rintro e w2 ⟨⟨eb, rfl, heb, hex⟩, hb2⟩
    have hd2 := H1.out.2.2.on hb2
    have e4 : w2.cell? ⟨db, 4, none⟩ = some (.int .i64 7) := hd2.blk.cell 4
    have e5 : w2.cell? ⟨db, 5, none⟩ = some (.int .i64 0) := hd2.blk.cell 5
    have e6 : w2.cell? ⟨db, 6, none⟩ = some (.slice (some ⟨d.eb, 0, none⟩) 2 2) := hd2.blk.cell 6
    have f4 := hd2.blk.froz 4
    have f5 := hd2.blk.froz 5
    have f6 := hd2.blk.froz 6
    have H2 := Lib.hid (And.intro (H1.out.1.trans (hb2.mono H1.out.1.size)) (And.intro hd2 hex))
    clear hb2 hd2 hex heb hc0
    go_wp2_with fail
    go_ret
    have hd := H2.out.2.1
    have hb : Blk (((w2.setCell ⟨db, 4, none⟩ (.int .i64 7)).setCell ⟨db, 5, none⟩ (.int .i64 0)).setCell ⟨db, 6, none⟩ (.slice (some ⟨eb, 0, none⟩) 2 2)) db 44 (DV.cells { d with eb := eb }) := by
      simpa [DV.cells] using ((hd.blk.set 4 (.int .i64 7)).set 5 (.int .i64 0)).set 6 (.slice (some ⟨eb, 0, none⟩) 2 2)
    have hlow : ∀ k, k ≠ db → (((w2.setCell ⟨db, 4, none⟩ (.int .i64 7)).setCell ⟨db, 5, none⟩ (.int .i64 0)).setCell ⟨db, 6, none⟩ (.slice (some ⟨eb, 0, none⟩) 2 2)).heap[k]? = w2.heap[k]? := fun k hk => by
      rw [Below.heap_setCell _ ⟨db, 6, none⟩ _ k hk, Below.heap_setCell _ ⟨db, 5, none⟩ _ k hk, Below.heap_setCell _ ⟨db, 4, none⟩ _ k hk]
    exact ⟨(((Tch.of_below (S := fun k => k = db) H2.out.1).set (.inl rfl) _).set (.inl rfl) _).set (.inl rfl) _, .inl ⟨okT, (g, m), by unfold limitR; rw [H1.out.2.1], rfl, { d with eb := eb }, hb, hd.gen.kept (fun b _ _ hs => hlow b (desk_sub hd.blk hs)), (hlow _ (desk_expr hd.blk H2.out.2.2)).trans H2.out.2.2, hd.right, wordV_near H1.out.2.1⟩⟩
end Go.Proofs.YtalbllijahiiiaaGreatDoor
