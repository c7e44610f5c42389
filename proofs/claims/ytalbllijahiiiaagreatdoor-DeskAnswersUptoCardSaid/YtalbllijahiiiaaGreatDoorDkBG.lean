/- assayerref1.DrawOf is draw. assayerref1.LessTapes is less. -/
import Derived.Test.YtalbllijahiiiaaGreatDoorDkBF
import Derived.Deep.AppendLies
import Derived.Deep.RegionLaw
import Derived.Deep.Cut
import Derived.Deep.CutRange
section
namespace Go.Proofs.YtalbllijahiiiaaGreatDoor
open Go.RowKit Go.Mine Go.Mine.Desk

structure DI (g : G) (s : Seed) (w : World) (B : Nat) (gK xa gb : Int) (gao : Option Addr) (gn gc : Nat) (i : Nat) (ov : Value) (W : World) : Prop where
  below : Below w.heap.size w W
  gen : Blk W B 28 #[.int .i64 gK, .int .i64 xa, .int .i64 gb, .slice gao gn gc]
  seed : Blk W (B + 1) 87 #[.int .u64 (nextN s i).st, .int .u64 (nextN s i).ga]
  row : W.ownsRow (B + 2) 3 1 ov i (((draw g s).take i).map (.int .i64))
theorem DI.on {g : G} {s : Seed} {w : World} {B : Nat} {gK xa gb : Int} {gao : Option Addr} {gn gc : Nat} {i : Nat} {ov : Value} {W W' : World} (h : DI g s w B gK xa gb gao gn gc i ov W) (hb : Below W.heap.size W W') : DI g s w B gK xa gb gao gn gc i ov W' :=
  ⟨h.below.trans (hb.mono h.below.size), h.gen.below hb, h.seed.below hb, owns_below h.row hb⟩
set_option maxRecDepth 100000 in
set_option maxHeartbeats 1500000 in
theorem DrawOf_any (g : G) (v : Value) (hr : g.right) (st ga : Int) (w : World) (hv : GenAt w v g) :
    Calls Tryz.prog 36 #[v, .agg #[.int .u64 st, .int .u64 ga]] w fun e w' => (∃ ao c, e = .returned (.slice ao (draw g ⟨st, ga⟩).length c) ∧ w'.ownsRow w.heap.size 3 1 (.slice ao (draw g ⟨st, ga⟩).length c) (draw g ⟨st, ga⟩).length ((draw g ⟨st, ga⟩).map (.int .i64))) ∧ Below w.heap.size w w' := by
  obtain ⟨i1, hj1, hy0, hy1, hy2⟩ := info_parts infoI3d
  obtain ⟨gK, xa, gb, gao, gn, gc, hsh⟩ := hv.shape
  obtain ⟨w0, hw0⟩ : ∃ w0, w0 = (w.alloc (.cells #[.int .i64 gK, .int .i64 xa, .int .i64 gb, .slice gao gn gc] 28)).alloc (.cells #[.int .u64 st, .int .u64 ga] 87) := ⟨_, rfl⟩
  have hb0 : Below w.heap.size w w0 := by rw [hw0]; exact ((Below.refl w.heap.size w).alloc (Nat.le_refl _) _).alloc (by simp) _
  obtain ⟨B, hB⟩ : ∃ B, w.heap.size = B := ⟨_, rfl⟩
  have kg : Blk w0 B 28 #[.int .i64 gK, .int .i64 xa, .int .i64 gb, .slice gao gn gc] := by rw [hw0, ← hB]; exact (Blk.new _ _ _).alloc _
  have ksd : Blk w0 (B + 1) 87 #[.int .u64 st, .int .u64 ga] := by rw [hw0, ← hB]; have := Blk.new (w.alloc (.cells #[.int .i64 gK, .int .i64 xa, .int .i64 gb, .slice gao gn gc] 28)) 87 #[.int .u64 st, .int .u64 ga]; simpa using this
  obtain ⟨s, hs⟩ : ∃ s, s = (⟨st, ga⟩ : Seed) := ⟨_, rfl⟩
  have HI0 := Lib.hid (show DI g s w B gK xa gb gao gn gc 0 (.slice none 0 0) w0 from ⟨hb0, kg, by rw [hs]; exact ksd, World.ownsRow_nil _ _ _ _⟩)
  have HW := Lib.hid hw0
  have HV := Lib.hid hv
  have HSH := Lib.hid hsh
  rw [← hs]
  have hdl := draw_len hr s
  have HMS := Lib.hid (fun (l : List Int) (lo : Option Addr) (lc B0 : Nat) h1 (W : World) h2 h3 => MostOf_any g v hr l lo lc B0 h1 W h2 h3)
  rw [hsh] at HMS ⊢
  obtain ⟨m, hm⟩ : ∃ m, (draw g s).length = m := ⟨_, rfl⟩
  have HM := Lib.hid hm
  have HBD := Lib.hid (bound_b hr)
  have HAT := Lib.hid (fun i (hi : i ≤ (draw g s).length) => most_at hr s hi)
  rw [hm] at hdl ⊢
  rw [hm] at HAT
  clear hw0 hb0 kg ksd hs hv hsh hm
  go_enter Tryz.func36, Tryz.ntmps36
  go_upto_region 1 with fail
  rw [← HW.out]
  go_wp2_with fail
  go_loopg [5, 6] m (fun gq ov nv wr => ∃ i : Nat, i + gq = m ∧ RowKit.Hid (DI g s w B gK xa gb gao gn gc i ov wr))
  case atStart => exact ⟨0, by omega, HI0⟩
  case round =>
    obtain ⟨i, hig, HI⟩ := hrel
    have him : i ≤ m := by omega
    have htl : ((draw g s).take i).length = i := by rw [List.length_take, HM.out]; omega
    have hrow := HI.out.row
    obtain ⟨lo, lc, rfl⟩ := owns_shape hrow
    have hrow2 : wr.ownsRow (B + 2) 3 1 (.slice lo ((draw g s).take i).length lc) ((draw g s).take i).length (((draw g s).take i).map (.int .i64)) := by rw [htl]; exact hrow
    have HC1 := Lib.hid (HMS.out ((draw g s).take i) lo lc (B + 2) (by omega) wr hrow2 (by rw [← HSH.out]; exact HV.out.on HI.out.below))
    have HR2 := Lib.hid hrow2
    have hmost := HAT.out i him
    rw [htl] at HC1
    have HTL := Lib.hid htl
    have c0 : wr.cell? ⟨B, 0, none⟩ = some (.int .i64 gK) := HI.out.gen.cell 0
    have c1 : wr.cell? ⟨B, 1, none⟩ = some (.int .i64 xa) := HI.out.gen.cell 1
    have c2 : wr.cell? ⟨B, 2, none⟩ = some (.int .i64 gb) := HI.out.gen.cell 2
    have c3 : wr.cell? ⟨B, 3, none⟩ = some (.slice gao gn gc) := HI.out.gen.cell 3
    clear hrow hrow2 htl
    by_cases hlt : i < m
    · rw [if_pos hlt] at hmost
      obtain ⟨bv, hbv⟩ : ∃ bv, boundAt g i = bv := ⟨_, rfl⟩
      have hbb := HBD.out i
      rw [hbv] at hmost hbb
      obtain ⟨hb0, hb1⟩ := hbb
      rw [hmost] at HC1
      have HMO := Lib.hid hmost
      have HBV := Lib.hid hbv
      have d1 : decide (0 ≤ bv) = true := decide_eq_true hb0
      have hw1 : IntKind.i64.wrap (bv + 1) = bv + 1 := IntWalk.i64_in _ (by omega)
      clear hmost hbv
      go_wp2_with fail
      refine HC1.out.mono ?_
      clear HC1
      rintro e w1 ⟨rfl, hb1'⟩
      have HI1 := Lib.hid (HI.out.on hb1')
      have HC2 := Lib.hid (HMS.out ((draw g s).take i) lo lc (B + 2) (by rw [HTL.out]; omega) w1 (owns_below HR2.out hb1') (by rw [← HSH.out]; exact HV.out.on HI1.out.below))
      rw [HTL.out, HMO.out] at HC2
      have e0 : w1.cell? ⟨B, 0, none⟩ = some (.int .i64 gK) := HI1.out.gen.cell 0
      have e1 : w1.cell? ⟨B, 1, none⟩ = some (.int .i64 xa) := HI1.out.gen.cell 1
      have e2 : w1.cell? ⟨B, 2, none⟩ = some (.int .i64 gb) := HI1.out.gen.cell 2
      have e3 : w1.cell? ⟨B, 3, none⟩ = some (.slice gao gn gc) := HI1.out.gen.cell 3
      clear hb1' c0 c1 c2 c3
      go_wp2_with fail
      refine HC2.out.mono ?_
      clear HC2
      rintro e w2 ⟨rfl, hb2'⟩
      have HI2 := Lib.hid (HI1.out.on hb2')
      obtain ⟨si, hsi⟩ : ∃ si, nextN s i = si := ⟨_, rfl⟩
      have hsd := HI2.out.seed
      rw [hsi] at hsd
      obtain ⟨sa, sg⟩ := si
      have HSI := Lib.hid hsi
      have s0 : w2.cell? ⟨B + 1, 0, none⟩ = some (.int .u64 sa) := hsd.cell 0
      have s1 : w2.cell? ⟨B + 1, 1, none⟩ = some (.int .u64 sg) := hsd.cell 1
      have HC3 := Lib.hid (BelowOf_any sa sg (bv + 1) (by omega) w2)
      have HC4 := Lib.hid (fun W => Step_any sa sg W)
      clear hb2' e0 e1 e2 e3 hsi hsd
      go_wp2_with fail
      refine HC3.out.mono ?_
      clear HC3
      rintro e w3 ⟨rfl, hb3'⟩
      have HI3 := Lib.hid (HI2.out.on hb3')
      have hz3 : B + 2 ≤ w3.heap.size := HI3.out.seed.lt
      obtain ⟨x, hx⟩ : ∃ x, (Seed.mk sa sg).below (bv + 1) = x := ⟨_, rfl⟩
      have HX := Lib.hid (show (draw g s).take (i + 1) = (draw g s).take i ++ [x] by rw [List.take_add_one, draw_at s (by rw [HM.out]; exact hlt), HSI.out, HBV.out, hx]; rfl)
      rw [hx]
      clear hb3' hx s0 s1
      go_wp2_with (at_builtin; refine wpList_push2 _ rfl _ _ 48 rfl (B + 2) 3 i1 (.int .i64 0) 1 8 Tryz.underlying48 hj1 hy0 hy1 hy2 rfl (by decide) _ _ _ rfl (HI3.out.row.alloc _) ⟨w3.heap.size, 0, none⟩ 1 [.int .i64 x] rfl rfl (World.news_of_block (cs := #[.int .i64 x]) (t := 3) (fr := (0, 0)) (heap_alloc_at _ _ rfl)) (one1 _ _) (by unfold maxLen; omega) (by omega) (by simp; omega) ?_)
      intro gq cap w7 hown hgr hat7
      have hlow : ∀ k, k < B + 2 → w7.heap[k]? = w3.heap[k]? := fun k hk => by
        rw [hgr.block k (by simp; omega) (fun e => by have := (HI3.out.row.lt k e.symm).1; omega), Below.heap_alloc w3 _ k (by omega)]
      have hb7 : Below w.heap.size w w7 := (HI3.out.below.alloc HI3.out.below.size (.cells #[.int .i64 x] 3)).grown hgr (by have := HI3.out.below.size; simp; omega) (fun q hq => by have := (HI3.out.row.lt q hq).1; omega)
      have kg7 := HI3.out.gen.same (hlow B (by omega))
      have ks7 := HI3.out.seed.same (hlow (B + 1) (by omega))
      rw [HSI.out] at ks7
      have H7 := Lib.hid (And.intro hb7 (And.intro kg7 (And.intro ks7 hown)))
      have s0 : w7.cell? ⟨B + 1, 0, none⟩ = some (.int .u64 sa) := ks7.cell 0
      have s1 : w7.cell? ⟨B + 1, 1, none⟩ = some (.int .u64 sg) := ks7.cell 1
      clear hown hgr hat7 hlow hb7 kg7 ks7
      go_wp2_with fail
      refine (HC4.out w7).mono ?_
      clear HC4
      rintro e w8 ⟨rfl, hb8⟩
      have ks8 := H7.out.2.2.1.below hb8
      have kg8 := H7.out.2.1.below hb8
      have t0 : w8.cell? ⟨B + 1, 0, none⟩ = some (.int .u64 sa) := ks8.cell 0
      have t1 : w8.cell? ⟨B + 1, 1, none⟩ = some (.int .u64 sg) := ks8.cell 1
      have u0 : w8.frozen? ⟨B + 1, 0, none⟩ = false := ks8.froz 0
      have u1 : w8.frozen? ⟨B + 1, 1, none⟩ = false := ks8.froz 1
      obtain ⟨sn, hsn⟩ : ∃ sn, (Seed.mk sa sg).next = sn := ⟨_, rfl⟩
      rw [hsn]
      have HK := Lib.hid (show DI g s w B gK xa gb gao gn gc (i + 1) (.slice (some ⟨gq, 0, none⟩) (i + 1) cap) ((w8.setCell ⟨B + 1, 0, none⟩ (.int .u64 sn.st)).setCell ⟨B + 1, 1, none⟩ (.int .u64 sn.ga)) from by
        have hs8 : ∀ k, k ≠ B + 1 → ((w8.setCell ⟨B + 1, 0, none⟩ (.int .u64 sn.st)).setCell ⟨B + 1, 1, none⟩ (.int .u64 sn.ga)).heap[k]? = w8.heap[k]? := fun k hk => by
          rw [Below.heap_setCell _ _ _ _ hk, Below.heap_setCell _ _ _ _ hk]
        have ho8 := owns_below H7.out.2.2.2 hb8
        refine ⟨?_, kg8.same (hs8 _ (by omega)), ?_, ?_⟩
        · exact ((H7.out.1.trans (hb8.mono H7.out.1.size)).setCell (by show w.heap.size ≤ B + 1; omega) _).setCell (by show w.heap.size ≤ B + 1; omega) _
        · have h := (ks8.set 0 (.int .u64 sn.st)).set 1 (.int .u64 sn.ga)
          rw [nextN, HSI.out, hsn]
          simpa using h
        · rw [HX.out, List.map_append, List.map_take]
          exact owns_same ho8 fun q hq => hs8 q (by have := (ho8.lt q hq).1; omega))
      clear hb8 ks8 kg8 hsn
      simp only [seedV]
      go_wp2_with fail
      go_roundg (gk - 1)
      case rel => exact ⟨i + 1, by omega, HK⟩
      case measure => omega
    · rw [if_neg hlt] at hmost
      obtain rfl : i = m := by omega
      rw [hmost] at HC1
      clear hmost
      go_wp2_with fail
      refine HC1.out.mono ?_
      clear HC1
      rintro e w1 ⟨rfl, hb1'⟩
      have HI1 := Lib.hid (HI.out.on hb1')
      clear hb1' c0 c1 c2 c3
      go_wp2_with fail
      go_ret
      have ho := HI1.out.row
      rw [List.take_of_length_le (by rw [HM.out]; exact Nat.le_refl _)] at ho
      exact ⟨⟨lo, lc, rfl, ho.mono (by omega)⟩, HI1.out.below⟩
end Go.Proofs.YtalbllijahiiiaaGreatDoor
end

section
namespace Go.Proofs.YtalbllijahiiiaaGreatDoor
open Go.RowKit Go.Mine Go.Mine.Desk

theorem IntsAt.take {w : World} {ao : Option Addr} {xs : List Int} (h : IntsAt .i64 w ao xs) (k : Nat) : IntsAt .i64 w ao (xs.take k) := by
  intro j hj
  rw [List.length_take] at hj
  obtain ⟨b, o, h1, h2⟩ := h j (by omega)
  refine ⟨b, o, h1, ?_⟩
  rw [h2]
  simp [show j < k by omega]
theorem IntsAt.drop {w : World} {b o : Nat} {xs : List Int} (h : IntsAt .i64 w (some ⟨b, o, none⟩) xs) (k : Nat) : IntsAt .i64 w (some ⟨b, o + k, none⟩) (xs.drop k) := by
  intro j hj
  rw [List.length_drop] at hj
  obtain ⟨b', o', h1, h2⟩ := h (k + j) (by omega)
  simp only [Option.some.injEq, Addr.mk.injEq, and_true] at h1
  obtain ⟨rfl, rfl⟩ := h1
  refine ⟨b, o + k, rfl, ?_⟩
  rw [Nat.add_assoc, h2]
  simp
theorem IntsAt.short {w : World} {ao : Option Addr} {xs : List Int} (h : xs.length = 0) : IntsAt .i64 w ao xs := by
  intro j hj; omega
def Ty3 (w : World) (ao : Option Addr) : Prop := ∀ b o, ao = some ⟨b, o, none⟩ → ∃ cs, w.heap[b]? = some (.cells cs 3 (0, 0))
theorem Ty3.on {w w' : World} {ao : Option Addr} (h : Ty3 w ao) (hb : Below w.heap.size w w') : Ty3 w' ao := fun b o e => by
  obtain ⟨cs, hc⟩ := h b o e
  exact ⟨cs, (hb.block b (Array.getElem?_eq_some_iff.1 hc).1).trans hc⟩
theorem Ty3.of_owns {w : World} {base : Nat} {ao : Option Addr} {n c : Nat} {xs : List Value} (h : w.ownsRow base 3 1 (.slice ao n c) n xs) : Ty3 w ao := fun b o e => by
  subst e
  rcases h.2 with ⟨h1, _⟩ | ⟨g, cap, cur, h1, _, hb, _⟩
  · cases h1
  · simp only [Value.slice.injEq, Option.some.injEq, Addr.mk.injEq, and_true] at h1
    obtain ⟨⟨rfl, rfl⟩, _⟩ := h1
    exact ⟨_, hb⟩
theorem Ty3.ne {w : World} {ao : Option Addr} (h : Ty3 w ao) {B : Nat} {T : TypeId} {cs : Array Value} (k : Blk w B T cs) (hT : T ≠ 3) {b o : Nat} (e : ao = some ⟨b, o, none⟩) : b ≠ B := by
  rintro rfl
  obtain ⟨cs', hc⟩ := h b o e
  have hk : w.heap[b]? = _ := k
  rw [hk] at hc
  simp only [Option.some.injEq, Obj.cells.injEq] at hc
  exact hT hc.2.1
def RowsR (w : World) (ao : Option Addr) (l : List (List Int)) : Prop := ∀ j, j < l.length → ∃ b o ro rc, ao = some ⟨b, o, none⟩ ∧ w.cell? ⟨b, o + j, none⟩ = some (.slice ro (l.getD j []).length rc) ∧ IntsAt .i64 w ro (l.getD j []) ∧ (l.getD j []).length ≤ rc ∧ Ty3 w ro
theorem RowsR.tapes {w : World} {ao : Option Addr} {l : List (List Int)} (h : RowsR w ao l) : TapesIn w ao l := fun j hj => by
  obtain ⟨b, o, ro, rc, h1, h2, h3, _⟩ := h j hj
  exact ⟨b, o, ro, rc, h1, h2, h3⟩
theorem GridOwn.rows {w : World} {B : Nat} {ao : Option Addr} {n c : Nat} {l : List (List Int)} (h : GridOwn w B (.slice ao n c) l) : RowsR w ao l := fun j hj => by
  obtain ⟨vs, h1, h2⟩ := h
  obtain ⟨v, hv, hr⟩ := h2 j hj
  obtain ⟨ro, rc, rfl⟩ := owns_shape hr
  rcases id h1.2 with ⟨_, h0⟩ | ⟨g, cap, cur, he, _⟩
  · omega
  · simp only [Value.slice.injEq] at he
    obtain ⟨rfl, rfl, rfl⟩ := he
    have hvl : vs.length = l.length := by have := h1.1; omega
    have hc := h1.cellAt j (by omega)
    rw [hv] at hc
    exact ⟨g, 0, ro, rc, rfl, by rw [Nat.zero_add]; exact hc, IntsAt.of_owns hr, own_cap2 hr, Ty3.of_owns hr⟩
theorem GridOwn.laid1 {w : World} {B : Nat} {v0 : Value} {r0 : List Int} (hB : B ≤ w.heap.size) (h0 : w.ownsRow B 3 1 v0 r0.length (r0.map (.int .i64))) : GridOwn (w.alloc (.cells #[v0] 48)) B (.slice (some ⟨w.heap.size, 0, none⟩) 1 1) [r0] :=
  ⟨[v0], by have h := World.ownsRow_lit (base := B) (e := 48) (size := 1) w #[v0] 1 hB (by unfold maxLen; omega) rfl; simpa using h, fun j hj => by
    obtain rfl : j = 0 := by simp at hj; omega
    exact ⟨v0, rfl, h0.alloc _⟩⟩
theorem GridOwn.laid4 {w : World} {B : Nat} {v0 v1 v2 v3 : Value} {r0 r1 r2 r3 : List Int} (hB : B ≤ w.heap.size) (h0 : w.ownsRow B 3 1 v0 r0.length (r0.map (.int .i64))) (h1 : w.ownsRow B 3 1 v1 r1.length (r1.map (.int .i64))) (h2 : w.ownsRow B 3 1 v2 r2.length (r2.map (.int .i64))) (h3 : w.ownsRow B 3 1 v3 r3.length (r3.map (.int .i64))) :
    GridOwn (w.alloc (.cells #[v0, v1, v2, v3] 48)) B (.slice (some ⟨w.heap.size, 0, none⟩) 4 4) [r0, r1, r2, r3] :=
  ⟨[v0, v1, v2, v3], by have h := World.ownsRow_lit (base := B) (e := 48) (size := 1) w #[v0, v1, v2, v3] 4 hB (by unfold maxLen; omega) rfl; simpa using h, fun j hj => by
    have : j = 0 ∨ j = 1 ∨ j = 2 ∨ j = 3 := by simp at hj; omega
    rcases this with rfl | rfl | rfl | rfl
    · exact ⟨v0, rfl, h0.alloc _⟩
    · exact ⟨v1, rfl, h1.alloc _⟩
    · exact ⟨v2, rfl, h2.alloc _⟩
    · exact ⟨v3, rfl, h3.alloc _⟩⟩
structure KI (w : World) (B : Nat) (gK xa gb : Int) (gao : Option Addr) (gn gc : Nat) (ov : Value) (rows : List (List Int)) (W : World) : Prop where
  below : Below w.heap.size w W
  gen : Blk W B 28 #[.int .i64 gK, .int .i64 xa, .int .i64 gb, .slice gao gn gc]
  out : GridOwn W (B + 1) ov rows
theorem KI.on {w : World} {B : Nat} {gK xa gb : Int} {gao : Option Addr} {gn gc : Nat} {ov : Value} {rows : List (List Int)} {W W' : World} (h : KI w B gK xa gb gao gn gc ov rows W) (hb : Below W.heap.size W W') : KI w B gK xa gb gao gn gc ov rows W' :=
  ⟨h.below.trans (hb.mono h.below.size), h.gen.below hb, h.out.below hb⟩
structure KJ (w : World) (B : Nat) (gK xa gb : Int) (gao : Option Addr) (gn gc : Nat) (ov : Value) (rows : List (List Int)) (Z Z2 : Nat) (wt W : World) : Prop where
  ki : KI w B gK xa gb gao gn gc ov rows W
  off : ∀ q, ov.ownBlock = some q → q < Z ∨ Z2 ≤ q
  same : ∀ q, Z ≤ q → q < Z2 → W.heap[q]? = wt.heap[q]?
  size : Z2 ≤ W.heap.size
theorem KJ.on {w : World} {B : Nat} {gK xa gb : Int} {gao : Option Addr} {gn gc : Nat} {ov : Value} {rows : List (List Int)} {Z Z2 : Nat} {wt W W' : World} (h : KJ w B gK xa gb gao gn gc ov rows Z Z2 wt W) (hb : Below W.heap.size W W') : KJ w B gK xa gb gao gn gc ov rows Z Z2 wt W' :=
  ⟨h.ki.on hb, h.off, fun q h1 h2 => (hb.block q (by have := h.size; omega)).trans (h.same q h1 h2), Nat.le_trans h.size hb.size⟩
theorem KJ.push {w : World} {B : Nat} {gK xa gb : Int} {gao : Option Addr} {gn gc : Nat} {ov : Value} {rows : List (List Int)} {Z Z2 : Nat} {wt W W' : World} (h : KJ w B gK xa gb gao gn gc ov rows Z Z2 wt W) (hB : w.heap.size = B) {v : Value} {row : List Int} {cs : Array Value} {g cap : Nat} {vs : List Value} (hr : W.ownsRow (B + 1) 3 1 v row.length (row.map (.int .i64)))
    (h1 : W.ownsRow (B + 1) 48 1 ov rows.length vs) (h2 : ∀ j, j < rows.length → ∃ v, vs[j]? = some v ∧ W.ownsRow (B + 1) 3 1 v (rows.getD j []).length ((rows.getD j []).map (.int .i64)))
    (hown : W'.ownsRow (B + 1) 48 1 (.slice (some ⟨g, 0, none⟩) (rows.length + 1) cap) (rows.length + 1) (vs ++ [v])) (hgr : (W.alloc (.cells cs 48)).grownBy W' ov.ownBlock) (hat : ov.ownBlock = some g ∨ g = W.heap.size + 1) :
    KJ w B gK xa gb gao gn gc (.slice (some ⟨g, 0, none⟩) (rows.length + 1) cap) (rows ++ [row]) Z Z2 wt W' := by
  have hsz := h.size
  have hk : ∀ q, q < W.heap.size → ov.ownBlock ≠ some q → W'.heap[q]? = W.heap[q]? := fun q hq hn => by
    rw [hgr.block q (by simp; omega) (fun e => hn e.symm), Below.heap_alloc W _ q hq]
  refine ⟨⟨(h.ki.below.alloc h.ki.below.size (.cells cs 48)).grown hgr (by have := h.ki.below.size; simp; omega) (fun q hq => by have := (h1.lt q hq).1; omega), h.ki.gen.same (hk B h.ki.gen.lt (fun e => by have := (h1.lt B e).1; omega)), GridOwn.push h1 h2 hr hown hgr⟩, ?_, fun q hq1 hq2 => ?_, ?_⟩
  · rintro q hq
    cases hq
    show g < Z ∨ Z2 ≤ g
    rcases hat with e | e
    · exact h.off g e
    · exact .inr (by omega)
  · exact (hk q (by omega) (fun e => by rcases h.off q e with h3 | h3 <;> omega)).trans (h.same q hq1 hq2)
  · have := hgr.size
    simp at this
    omega
end Go.Proofs.YtalbllijahiiiaaGreatDoor
end
