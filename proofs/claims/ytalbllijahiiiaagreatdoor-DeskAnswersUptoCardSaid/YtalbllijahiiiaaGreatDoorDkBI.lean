/- assayerref1.WalkOf is walk. assayerref1.RunOf is runF. assayerref2.NthTape is nth. -/
import Derived.Test.YtalbllijahiiiaaGreatDoorDkBH
section
namespace Go.Proofs.YtalbllijahiiiaaGreatDoor
open Go.RowKit Go.Mine Go.Mine.Desk

theorem find_hit {f : List Int → Bool} {rows : List (List Int)} {j : Nat} (hj : j < rows.length) (h0 : ∀ k, k < j → f (rows.getD k []) = false) (h1 : f (rows.getD j []) = true) : rows.find? f = some (rows.getD j []) := by
  rw [List.find?_eq_some_iff_getElem]
  refine ⟨h1, j, hj, by simp [hj], fun k hk => ?_⟩
  have := h0 k hk
  rw [show rows.getD k [] = rows[k] by simp [show k < rows.length by omega]] at this
  simpa using this
theorem find_no {f : List Int → Bool} {rows : List (List Int)} (h0 : ∀ k, k < rows.length → f (rows.getD k []) = false) : rows.find? f = none := by
  rw [List.find?_eq_none]
  intro x hx
  obtain ⟨k, hk, rfl⟩ := List.mem_iff_getElem.1 hx
  have := h0 k hk
  rw [show rows.getD k [] = rows[k] by simp [hk]] at this
  simpa using this
theorem RowsR.on {w w' : World} {ao : Option Addr} {l : List (List Int)} (h : RowsR w ao l) (hb : Below w.heap.size w w') : RowsR w' ao l := fun j hj => by
  obtain ⟨b, o, ro, rc, h1, h2, h3, h4⟩ := h j hj
  exact ⟨b, o, ro, rc, h1, (hb.cell (World.block_lt_of_cell? w _ h2)).trans h2, ints_keep h3 hb, h4.1, h4.2.on hb⟩
structure WJ (mu : List Int → Nat) (g : G) (n : Int) (l m : List Int) (mo : Option Addr) (mc : Nat) (s : Int) (w : World) (B : Nat) (gK xa gb : Int) (gao : Option Addr) (gn gc eb : Nat) (wr : World) : Prop where
  below : Below w.heap.size w wr
  kg : Blk wr B 28 #[.int .i64 gK, .int .i64 xa, .int .i64 gb, .slice gao gn gc]
  kx : Blk wr (B + 1) 41 #[.int .i64 7, .int .i64 0, .slice (some ⟨eb, 0, none⟩) 2 2]
  at_ : IntsAt .i64 wr mo m
  cap : m.length ≤ mc
  t1 : tape1 m
  six : m.length ≤ 6
  eqn : walk g n l = ((walk g n m).1, s + (walk g n m).2)
  s0 : 0 ≤ s
  sb : s + (mu m : Int) ≤ mu l
  ty : Ty3 wr mo
theorem WJ.on {mu : List Int → Nat} {g : G} {n : Int} {l m : List Int} {mo : Option Addr} {mc : Nat} {s : Int} {w : World} {B : Nat} {gK xa gb : Int} {gao : Option Addr} {gn gc eb : Nat} {wr w' : World} (h : WJ mu g n l m mo mc s w B gK xa gb gao gn gc eb wr) (hb : Below wr.heap.size wr w') : WJ mu g n l m mo mc s w B gK xa gb gao gn gc eb w' :=
  ⟨h.below.trans (hb.mono h.below.size), h.kg.below hb, h.kx.below hb, ints_keep h.at_ hb, h.cap, h.t1, h.six, h.eqn, h.s0, h.sb, h.ty.on hb⟩
set_option maxRecDepth 100000 in
set_option maxHeartbeats 4000000 in
theorem WalkOf_any (g : G) (v : Value) (hr : g.right) (n : Int) (eb : Nat) (l : List Int) (lo : Option Addr) (lc : Nat) (hl1 : tape1 l) (hl6 : l.length ≤ 6) (hcap : l.length ≤ lc) (w : World) (he : ExprAt w eb n) (hv : GenAt w v g) (hat : IntsAt .i64 w lo l) (hty : Ty3 w lo) :
    Calls Tryz.prog 38 #[v, wholeE eb, .slice lo l.length lc] w fun e w' => (∃ uo uc, e = .returned (.tuple #[.slice uo (walk g n l).1.length uc, .int .i64 (walk g n l).2]) ∧ IntsAt .i64 w' uo (walk g n l).1 ∧ (walk g n l).1.length ≤ 6 ∧ tape1 (walk g n l).1 ∧ i64ok (walk g n l).2 ∧ Ty3 w' uo) ∧ Below w.heap.size w w' := by
  obtain ⟨mu, hmu⟩ := mu_any hr
  obtain ⟨gK, xa, gb, gao, gn, gc, hsh⟩ := hv.shape
  obtain ⟨w0, hw0⟩ : ∃ w0, w0 = (w.alloc (.cells #[.int .i64 gK, .int .i64 xa, .int .i64 gb, .slice gao gn gc] 28)).alloc (.cells #[.int .i64 7, .int .i64 0, .slice (some ⟨eb, 0, none⟩) 2 2] 41) := ⟨_, rfl⟩
  have hb0 : Below w.heap.size w w0 := by rw [hw0]; exact ((Below.refl w.heap.size w).alloc (Nat.le_refl _) _).alloc (by simp) _
  obtain ⟨B, hB⟩ : ∃ B, w.heap.size = B := ⟨_, rfl⟩
  have kg : Blk w0 B 28 #[.int .i64 gK, .int .i64 xa, .int .i64 gb, .slice gao gn gc] := by rw [hw0, ← hB]; exact (Blk.new _ _ _).alloc _
  have kx : Blk w0 (B + 1) 41 #[.int .i64 7, .int .i64 0, .slice (some ⟨eb, 0, none⟩) 2 2] := by rw [hw0, ← hB]; have := Blk.new (w.alloc (.cells #[.int .i64 gK, .int .i64 xa, .int .i64 gb, .slice gao gn gc] 28)) 41 #[.int .i64 7, .int .i64 0, .slice (some ⟨eb, 0, none⟩) 2 2]; simpa using this
  have HI0 := Lib.hid (show mu l = mu l ∧ WJ mu g n l l lo lc 0 w B gK xa gb gao gn gc eb w0 from ⟨rfl, hb0, kg, kx, ints_keep hat hb0, hcap, hl1, hl6, wk_start _, by omega, by omega, hty.on hb0⟩)
  have HW := Lib.hid hw0
  have HV := Lib.hid (And.intro hv he)
  have HSH := Lib.hid hsh
  have HMU := Lib.hid hmu
  have hfew := hmu.few l hl1 hl6
  have HLT := Lib.hid (fun (m : List Int) (mo : Option Addr) (mc : Nat) h1 h2 h3 (W : World) h4 h5 => LessTapes_any g v hr m mo mc h1 h2 h3 W h4 h5)
  have HBT := Lib.hid (fun (m : List Int) (mo : Option Addr) (mc : Nat) h1 (W : World) h2 h3 h4 => BadTape_any g v hr n eb m mo mc h1 W h2 h3 h4)
  have HRR := Lib.hid hr
  obtain ⟨M, hM⟩ : ∃ M, mu l = M := ⟨_, rfl⟩
  have HM := Lib.hid hM
  simp only [wholeE] at HBT
  rw [hsh] at HLT HBT ⊢
  rw [hM] at HI0 hfew
  clear hw0 hb0 kg kx hv he hsh hat hmu hl1 hl6 hcap hr hM hty
  simp only [wholeE]
  go_enter Tryz.func38, Tryz.ntmps38
  go_upto_region 1 with fail
  rw [← HW.out]
  go_wp2_with fail
  go_loopg [2, 8, 9, 10] M (fun gq lv sv _ _ wr => ∃ (m : List Int) (mn : Nat) (mo : Option Addr) (mc : Nat) (s : Int), lv = .slice mo mn mc ∧ sv = .int .i64 s ∧ RowKit.Hid (m.length = mn ∧ gq = mu m ∧ WJ mu g n l m mo mc s w B gK xa gb gao gn gc eb wr))
  case atStart => exact ⟨l, _, lo, lc, 0, rfl, rfl, Lib.hid ⟨rfl, by rw [HM.out], HI0.out.2⟩⟩
  case round =>
    obtain ⟨m, mn, mo, mc, s, rfl, rfl, HI⟩ := hrel
    have HJ := Lib.hid HI.out.2.2
    have HG := Lib.hid HI.out.2.1
    have HC1 := Lib.hid (HLT.out m mo mc HJ.out.six HJ.out.t1 HJ.out.cap wr HJ.out.at_ (by rw [← HSH.out]; exact HV.out.1.on HJ.out.below))
    rw [HI.out.1] at HC1
    have c0 : wr.cell? ⟨B, 0, none⟩ = some (.int .i64 gK) := HJ.out.kg.cell 0
    have c1 : wr.cell? ⟨B, 1, none⟩ = some (.int .i64 xa) := HJ.out.kg.cell 1
    have c2 : wr.cell? ⟨B, 2, none⟩ = some (.int .i64 gb) := HJ.out.kg.cell 2
    have c3 : wr.cell? ⟨B, 3, none⟩ = some (.slice gao gn gc) := HJ.out.kg.cell 3
    go_wp2_with fail
    refine HC1.out.mono ?_
    clear HC1 c0 c1 c2 c3
    rintro e w1 ⟨⟨ao, ac, rfl, hrows⟩, hb1⟩
    have HJ1 := Lib.hid (HJ.out.on hb1)
    have hN24 := less_len g m m.length
    rw [show (List.range m.length).flatMap (lessAt g m) = less g m from rfl] at hN24
    have hm6 := HJ.out.six
    obtain ⟨rows, hrw⟩ : ∃ rows, less g m = rows := ⟨_, rfl⟩
    have HRW := Lib.hid hrw
    rw [hrw] at hrows hN24 ⊢
    have HR := Lib.hid hrows
    obtain ⟨N, hN⟩ : ∃ N, rows.length = N := ⟨_, rfl⟩
    have HN := Lib.hid hN
    have hN24' : N ≤ 24 := by omega
    rw [hN]
    clear hrows hrw hN24 hm6 hb1 hN
    have hs0 := HJ.out.s0
    have hsb := HJ.out.sb
    rw [HM.out] at hsb
    have hswr : IntKind.i64.wrap (s + 1) = s + 1 := IntWalk.i64_in _ (by omega)
    have HSB := Lib.hid (And.intro hs0 hsb)
    clear hs0 hsb
    go_wp2_with fail
    go_loopw [10] (fun kv wj => ∃ j : Nat, kv = .int .i64 (j : Int) ∧ j ≤ N ∧ RowKit.Hid ((∀ k, k < j → bad g n (rows.getD k []) = false) ∧ Below w1.heap.size w1 wj)) (fun kv _ => N - (intOf kv).toNat)
    case atStart => exact ⟨0, rfl, by omega, Lib.hid ⟨fun k hk => by omega, Below.refl _ _⟩⟩
    case round =>
      obtain ⟨j, rfl, hj, HK⟩ := hrel
      have HJ2 := Lib.hid (HJ1.out.on HK.out.2)
      rcases Nat.lt_or_ge j N with hjn | hjn
      · obtain ⟨b, o, ro, rc, rfl, hc0, hri, hrc⟩ := (HR.out.on HK.out.2) j (by rw [HN.out]; exact hjn)
        obtain ⟨t, ht⟩ : ∃ t, rows.getD j [] = t := ⟨_, rfl⟩
        rw [ht] at hc0 hri hrc
        have hmem : t ∈ less g m := by
          rw [HRW.out, ← ht]
          have : j < rows.length := by rw [HN.out]; exact hjn
          rw [show rows.getD j [] = rows[j] by simp [this]]
          exact List.getElem_mem this
        obtain ⟨f1, f2, f3⟩ := HMU.out.falls m t HJ.out.t1 hmem
        have HC2 := Lib.hid (HBT.out t ro rc (by omega) wr.drew (show IntsAt .i64 wr ro t from hri) (show GenAt wr _ g by rw [← HSH.out]; exact HV.out.1.on HJ2.out.below) (show ExprAt wr eb n from (show Blk w eb _ _ from HV.out.2).below HJ2.out.below))
        have HTT := Lib.hid (And.intro ht (And.intro hri (And.intro hrc (And.intro f1 (And.intro f2 f3)))))
        obtain ⟨tl, htl⟩ : ∃ tl, t.length = tl := ⟨_, rfl⟩
        have HTL := Lib.hid htl
        rw [htl] at hc0 HC2
        have c0 : wr.cell? ⟨B, 0, none⟩ = some (.int .i64 gK) := HJ2.out.kg.cell 0
        have c1 : wr.cell? ⟨B, 1, none⟩ = some (.int .i64 xa) := HJ2.out.kg.cell 1
        have c2 : wr.cell? ⟨B, 2, none⟩ = some (.int .i64 gb) := HJ2.out.kg.cell 2
        have c3 : wr.cell? ⟨B, 3, none⟩ = some (.slice gao gn gc) := HJ2.out.kg.cell 3
        have x0 : wr.cell? ⟨B + 1, 0, none⟩ = some (.int .i64 7) := HJ2.out.kx.cell 0
        have x1 : wr.cell? ⟨B + 1, 1, none⟩ = some (.int .i64 0) := HJ2.out.kx.cell 1
        have x2 : wr.cell? ⟨B + 1, 2, none⟩ = some (.slice (some ⟨eb, 0, none⟩) 2 2) := HJ2.out.kx.cell 2
        have d1 : decide ((j : Int) < (N : Int)) = true := decide_eq_true (by omega)
        have hj0 : (0 : Int) ≤ (j : Int) := by omega
        have hj1 : (j : Int) < (N : Int) := by omega
        have hjw : IntKind.i64.wrap ((j : Int) + 1) = ((j + 1 : Nat) : Int) := by rw [IntWalk.i64_in _ (by omega)]; omega
        have hne : ((j : Int) == (N : Int)) = false := by rw [beq_eq_false_iff_ne]; omega
        have hne2 : ¬ (j : Int) = (N : Int) := by omega
        clear ht hri hrc hmem f1 f2 f3 htl
        cases hbad : bad g n t with
        | false =>
          rw [hbad] at HC2
          have HBD := Lib.hid hbad
          clear hbad
          go_wp2_with fail
          go_still_tail 11, (by kernel_rfl)
          go_wp2_with fail
          refine HC2.out.mono ?_
          clear HC2
          rintro e w3 ⟨rfl, hb3⟩
          have HB3 := Lib.hid (show Below w1.heap.size w1 w3 from HK.out.2.trans ((((Below.refl wr.heap.size wr).drew).trans hb3).mono HK.out.2.size))
          clear hb3 c0 c1 c2 c3 x0 x1 x2 hc0
          go_wp2_with fail
          go_roundw
          case rel => exact ⟨j + 1, by go_num, by omega, Lib.hid ⟨fun k hk => by
            rcases Nat.lt_or_ge k j with h | h
            · exact HK.out.1 k h
            · obtain rfl : k = j := by omega
              rw [HTT.out.1]
              exact HBD.out, HB3.out⟩⟩
          case measure => simp [intOf]; omega
        | true =>
          rw [hbad] at HC2
          have HF := Lib.hid (show (less g m).find? (bad g n) = some t by
            rw [HRW.out, ← HTT.out.1]
            exact find_hit (by rw [HN.out]; exact hjn) HK.out.1 (by rw [HTT.out.1]; exact hbad))
          clear hbad
          go_wp2_with fail
          go_still_tail 11, (by kernel_rfl)
          go_wp2_with fail
          refine HC2.out.mono ?_
          clear HC2
          rintro e w3 ⟨rfl, hb3⟩
          have hb3' : Below wr.heap.size wr w3 := ((Below.refl wr.heap.size wr).drew).trans hb3
          have HJ3 := Lib.hid (HJ2.out.on hb3')
          have hc3' : w3.cell? ⟨b, o + j, none⟩ = some (.slice ro tl rc) := (hb3'.cell (World.block_lt_of_cell? wr _ hc0)).trans hc0
          have HK3 := Lib.hid (show WJ mu g n l t ro rc (s + 1) w B gK xa gb gao gn gc eb w3 from ⟨HJ3.out.below, HJ3.out.kg, HJ3.out.kx, ints_keep HTT.out.2.1 hb3', HTT.out.2.2.1.1, HTT.out.2.2.2.1, HTT.out.2.2.2.2.1, wk_next HJ.out.eqn (walk_next HRR.out n HJ.out.t1 HJ.out.six HF.out), by have := HSB.out.1; omega, by have := HTT.out.2.2.2.2.2; have := HSB.out.2; rw [HM.out]; omega, HTT.out.2.2.1.2.on hb3'⟩)
          clear hb3 hb3' c0 c1 c2 c3 x0 x1 x2 hc0
          go_wp2_with fail
          go_roundg (mu t)
          case rel => exact ⟨t, tl, ro, rc, s + 1, rfl, rfl, Lib.hid ⟨HTL.out, rfl, HK3.out⟩⟩
          case measure => have h1 := HG.out; have h2 := HTT.out.2.2.2.2.2; omega
      · obtain rfl : j = N := by omega
        have d1 : decide ((j : Int) < (j : Int)) = false := decide_eq_false (by omega)
        have HF := Lib.hid (show (less g m).find? (bad g n) = none by rw [HRW.out]; exact find_no (fun k hk => HK.out.1 k (by rw [← HN.out]; exact hk)))
        have hst := wk_stop HJ.out.eqn (walk_stop HRR.out n HJ.out.t1 HJ.out.six HF.out)
        have HST := Lib.hid hst
        clear hst
        go_wp2_with fail
        go_quiet (fail)
        go_wp2_with fail
        go_ret2
        refine ⟨⟨mo, mc, ?_, ?_, ?_, ?_, ?_, HJ2.out.ty⟩, ?_⟩
        · rw [HST.out.1, HST.out.2, HI.out.1]; rfl
        · rw [HST.out.1]; exact HJ2.out.at_
        · rw [HST.out.1]; exact HJ.out.six
        · rw [HST.out.1]; exact HJ.out.t1
        · rw [HST.out.2]; have h1 := HSB.out.1; have h2 := HSB.out.2; unfold i64ok; omega
        · exact below_drewN HJ2.out.below _
end Go.Proofs.YtalbllijahiiiaaGreatDoor
end

section
namespace Go.Proofs.YtalbllijahiiiaaGreatDoor
open Go.RowKit Go.Mine Go.Mine.Desk

structure RO (w : World) (B : Nat) (gK xa gb : Int) (gao : Option Addr) (gn gc eb : Nat) (r : Int) (s : Seed) (W : World) : Prop where
  below : Below w.heap.size w W
  kg : Blk W B 28 #[.int .i64 gK, .int .i64 xa, .int .i64 gb, .slice gao gn gc]
  kx : Blk W (B + 1) 41 #[.int .i64 7, .int .i64 0, .slice (some ⟨eb, 0, none⟩) 2 2]
  res : Blk W (B + 1 + 1) 66 #[.int .i64 0, .bool false, .slice none 0 0, .int .i64 0]
  rep : Blk W (B + 1 + 1 + 1) 66 #[.int .i64 r, .bool false, .slice none 0 0, .int .i64 0]
  sd : Blk W (B + 1 + 1 + 1 + 1) 87 #[.int .u64 s.st, .int .u64 s.ga]
theorem RO.on {w : World} {B : Nat} {gK xa gb : Int} {gao : Option Addr} {gn gc eb : Nat} {r : Int} {s : Seed} {W W' : World} (h : RO w B gK xa gb gao gn gc eb r s W) (hb : Below W.heap.size W W') : RO w B gK xa gb gao gn gc eb r s W' :=
  ⟨h.below.trans (hb.mono h.below.size), h.kg.below hb, h.kx.below hb, h.res.below hb, h.rep.below hb, h.sd.below hb⟩
theorem RO.next {w : World} {B : Nat} {gK xa gb : Int} {gao : Option Addr} {gn gc eb : Nat} {r : Int} {s : Seed} {W W' : World} (h : RO w B gK xa gb gao gn gc eb r s W) (hB : w.heap.size = B) {r2 : Int} {s2 : Seed}
    (hW : W' = ((W.setCell ⟨B + 1 + 1 + 1 + 1, 0, none⟩ (.int .u64 s2.st)).setCell ⟨B + 1 + 1 + 1 + 1, 1, none⟩ (.int .u64 s2.ga)).setCell ⟨B + 1 + 1 + 1, 0, none⟩ (.int .i64 r2)) :
    RO w B gK xa gb gao gn gc eb r2 s2 W' ∧ ∀ q, q ≠ B + 1 + 1 + 1 + 1 → q ≠ B + 1 + 1 + 1 → W'.heap[q]? = W.heap[q]? := by
  have hs : ∀ q, q ≠ B + 1 + 1 + 1 + 1 → q ≠ B + 1 + 1 + 1 → W'.heap[q]? = W.heap[q]? := fun q h1 h2 => by
    rw [hW, Below.heap_setCell _ _ _ _ h2, Below.heap_setCell _ _ _ _ h1, Below.heap_setCell _ _ _ _ h1]
  refine ⟨⟨?_, h.kg.same (hs _ (by omega) (by omega)), h.kx.same (hs _ (by omega) (by omega)), h.res.same (hs _ (by omega) (by omega)), ?_, ?_⟩, hs⟩
  · rw [hW]
    exact ((h.below.setCell (by show w.heap.size ≤ B + 1 + 1 + 1 + 1; omega) _).setCell (by show w.heap.size ≤ B + 1 + 1 + 1 + 1; omega) _).setCell (by show w.heap.size ≤ B + 1 + 1 + 1; omega) _
  · rw [hW]
    have k := ((h.rep.other (B + 1 + 1 + 1 + 1) 0 (by omega) (.int .u64 s2.st)).other (B + 1 + 1 + 1 + 1) 1 (by omega) (.int .u64 s2.ga)).set 0 (.int .i64 r2)
    simpa using k
  · rw [hW]
    have k := ((h.sd.set 0 (.int .u64 s2.st)).set 1 (.int .u64 s2.ga)).other (B + 1 + 1 + 1) 0 (by omega) (.int .i64 r2)
    simpa using k
def RunOfPost (g : G) (n sd many : Int) (w : World) (e : Ending) (w' : World) : Prop :=
  Below w.heap.size w w' ∧ ((∃ r, runF g n many.toNat (Seed.new sd) 0 = (r, none) ∧ i64ok r ∧ e = .returned (.agg #[.int .i64 r, .bool false, .slice none 0 0, .int .i64 0])) ∨
    (∃ r l k uo uc, runF g n many.toNat (Seed.new sd) 0 = (r, some (l, k)) ∧ i64ok r ∧ i64ok k ∧ l.length ≤ 6 ∧ tape1 l ∧ e = .returned (.agg #[.int .i64 r, .bool true, .slice uo l.length uc, .int .i64 k]) ∧ IntsAt .i64 w' uo l ∧ Ty3 w' uo))
set_option maxRecDepth 100000 in
set_option maxHeartbeats 4000000 in
theorem RunOf_any (g : G) (v : Value) (hr : g.right) (n : Int) (eb : Nat) (sd many : Int) (hm0 : 0 ≤ many) (hm1 : many ≤ 50) (w : World) (he : ExprAt w eb n) (hv : GenAt w v g) :
    Calls Tryz.prog 24 #[v, wholeE eb, .int .i64 sd, .int .i64 many] w (RunOfPost g n sd many w) := by
  obtain ⟨gK, xa, gb, gao, gn, gc, hsh⟩ := hv.shape
  obtain ⟨M, rfl⟩ : ∃ M : Nat, many = M := ⟨many.toNat, by omega⟩
  obtain ⟨sn, hsn⟩ : ∃ sn, Seed.new sd = sn := ⟨_, rfl⟩
  have hsn1 : sn.st = IntKind.u64.wrap sd := by rw [← hsn]; rfl
  have hsn2 : sn.ga = 11400714819323198485 := by rw [← hsn]; rfl
  obtain ⟨w0, hw0⟩ : ∃ w0, w0 = ((((w.alloc (.cells #[.int .i64 gK, .int .i64 xa, .int .i64 gb, .slice gao gn gc] 28)).alloc (.cells #[.int .i64 7, .int .i64 0, .slice (some ⟨eb, 0, none⟩) 2 2] 41)).alloc (.cells #[.int .i64 0, .bool false, .slice none 0 0, .int .i64 0] 66)).alloc (.cells #[.int .i64 0, .bool false, .slice none 0 0, .int .i64 0] 66)).alloc (.cells #[.int .u64 (IntKind.u64.wrap sd), .int .u64 11400714819323198485] 87) := ⟨_, rfl⟩
  obtain ⟨B, hB⟩ : ∃ B, w.heap.size = B := ⟨_, rfl⟩
  have HI0 := Lib.hid (show RO w B gK xa gb gao gn gc eb 0 sn w0 from by
    obtain ⟨a1, h1⟩ : ∃ a1, a1 = w.alloc (.cells #[.int .i64 gK, .int .i64 xa, .int .i64 gb, .slice gao gn gc] 28) := ⟨_, rfl⟩
    obtain ⟨a2, h2⟩ : ∃ a2, a2 = a1.alloc (.cells #[.int .i64 7, .int .i64 0, .slice (some ⟨eb, 0, none⟩) 2 2] 41) := ⟨_, rfl⟩
    obtain ⟨a3, h3⟩ : ∃ a3, a3 = a2.alloc (.cells #[.int .i64 0, .bool false, .slice none 0 0, .int .i64 0] 66) := ⟨_, rfl⟩
    obtain ⟨a4, h4⟩ : ∃ a4, a4 = a3.alloc (.cells #[.int .i64 0, .bool false, .slice none 0 0, .int .i64 0] 66) := ⟨_, rfl⟩
    rw [← h1, ← h2, ← h3, ← h4] at hw0
    have z1 : a1.heap.size = B + 1 := by rw [h1, ← hB]; simp
    have z2 : a2.heap.size = B + 1 + 1 := by rw [h2, ← z1]; simp
    have z3 : a3.heap.size = B + 1 + 1 + 1 := by rw [h3, ← z2]; simp
    have z4 : a4.heap.size = B + 1 + 1 + 1 + 1 := by rw [h4, ← z3]; simp
    have k1 : Blk a1 B 28 #[.int .i64 gK, .int .i64 xa, .int .i64 gb, .slice gao gn gc] := by rw [h1, ← hB]; exact Blk.new _ _ _
    have k2 : Blk a2 (B + 1) 41 #[.int .i64 7, .int .i64 0, .slice (some ⟨eb, 0, none⟩) 2 2] := by rw [h2, ← z1]; exact Blk.new _ _ _
    have k3 : Blk a3 (B + 1 + 1) 66 #[.int .i64 0, .bool false, .slice none 0 0, .int .i64 0] := by rw [h3, ← z2]; exact Blk.new _ _ _
    have k4 : Blk a4 (B + 1 + 1 + 1) 66 #[.int .i64 0, .bool false, .slice none 0 0, .int .i64 0] := by rw [h4, ← z3]; exact Blk.new _ _ _
    have k5 : Blk w0 (B + 1 + 1 + 1 + 1) 87 #[.int .u64 (IntKind.u64.wrap sd), .int .u64 11400714819323198485] := by rw [hw0, ← z4]; exact Blk.new _ _ _
    refine ⟨?_, ?_, ?_, ?_, ?_, ?_⟩
    · rw [hw0, h4, h3, h2, h1]
      exact (((((Below.refl w.heap.size w).alloc (Nat.le_refl _) _).alloc (by simp) _).alloc (by simp; omega) _).alloc (by simp; omega) _).alloc (by simp; omega) _
    · rw [hw0, h4, h3, h2]; exact (((k1.alloc _).alloc _).alloc _).alloc _
    · rw [hw0, h4, h3]; exact ((k2.alloc _).alloc _).alloc _
    · rw [hw0, h4]; exact (k3.alloc _).alloc _
    · rw [hw0]; exact k4.alloc _
    · rw [hsn1, hsn2]; exact k5)
  have HW := Lib.hid hw0
  have HV := Lib.hid (And.intro hv (And.intro he hr))
  have HSH := Lib.hid hsh
  have HDR := Lib.hid (fun (st ga : Int) (W : World) h => DrawOf_any g v hr st ga W h)
  have HBT := Lib.hid (fun (m : List Int) (mo : Option Addr) (mc : Nat) h1 (W : World) h2 h3 h4 => BadTape_any g v hr n eb m mo mc h1 W h2 h3 h4)
  have HWK := Lib.hid (fun (m : List Int) (mo : Option Addr) (mc : Nat) h1 h2 h3 (W : World) h4 h5 h6 h7 => WalkOf_any g v hr n eb m mo mc h1 h2 h3 W h4 h5 h6 h7)
  simp only [wholeE] at HBT HWK
  have HSN := Lib.hid hsn
  rw [hsh] at HDR HBT HWK ⊢
  clear hw0 hv he hsh hr hsn hsn1 hsn2
  simp only [wholeE]
  go_enter Tryz.func24, Tryz.ntmps24
  go_upto_region 3 with fail
  rw [← HW.out]
  go_wp2_with fail
  go_loopg [11, 12, 13] M (fun gq _ _ _ wr => ∃ (r : Int) (s : Seed), r + gq = M ∧ 0 ≤ r ∧ RowKit.Hid (runF g n M sn 0 = runF g n gq s r ∧ RO w B gK xa gb gao gn gc eb r s wr))
  case atStart => exact ⟨0, sn, by omega, by omega, Lib.hid ⟨rfl, HI0.out⟩⟩
  case round =>
    obtain ⟨r, s, hrm, hr0, HI⟩ := hrel
    have HO := Lib.hid HI.out.2
    have p0 : wr.cell? ⟨B + 1 + 1 + 1, 0, none⟩ = some (.int .i64 r) := HO.out.rep.cell 0
    have p1 : wr.cell? ⟨B + 1 + 1 + 1, 1, none⟩ = some (.bool false) := HO.out.rep.cell 1
    have p2 : wr.cell? ⟨B + 1 + 1 + 1, 2, none⟩ = some (.slice none 0 0) := HO.out.rep.cell 2
    have p3 : wr.cell? ⟨B + 1 + 1 + 1, 3, none⟩ = some (.int .i64 0) := HO.out.rep.cell 3
    have pf0 : wr.frozen? ⟨B + 1 + 1 + 1, 0, none⟩ = false := HO.out.rep.froz 0
    have pf1 : wr.frozen? ⟨B + 1 + 1 + 1, 1, none⟩ = false := HO.out.rep.froz 1
    have pf2 : wr.frozen? ⟨B + 1 + 1 + 1, 2, none⟩ = false := HO.out.rep.froz 2
    have pf3 : wr.frozen? ⟨B + 1 + 1 + 1, 3, none⟩ = false := HO.out.rep.froz 3
    rcases Nat.eq_zero_or_pos gk with hz | hz
    · have hrM : r = (M : Int) := by omega
      subst hz
      have HF := Lib.hid (show runF g n M sn 0 = (r, none) from HI.out.1)
      have d1 : decide (r < (M : Int)) = false := decide_eq_false (by omega)
      have q0 : wr.cell? ⟨B + 1 + 1, 0, none⟩ = some (.int .i64 0) := HO.out.res.cell 0
      have q1 : wr.cell? ⟨B + 1 + 1, 1, none⟩ = some (.bool false) := HO.out.res.cell 1
      have q2 : wr.cell? ⟨B + 1 + 1, 2, none⟩ = some (.slice none 0 0) := HO.out.res.cell 2
      have q3 : wr.cell? ⟨B + 1 + 1, 3, none⟩ = some (.int .i64 0) := HO.out.res.cell 3
      have qf0 : wr.frozen? ⟨B + 1 + 1, 0, none⟩ = false := HO.out.res.froz 0
      have qf1 : wr.frozen? ⟨B + 1 + 1, 1, none⟩ = false := HO.out.res.froz 1
      have qf2 : wr.frozen? ⟨B + 1 + 1, 2, none⟩ = false := HO.out.res.froz 2
      have qf3 : wr.frozen? ⟨B + 1 + 1, 3, none⟩ = false := HO.out.res.froz 3
      clear hrm
      go_wp2_with fail
      refine bodyPost_ret (v := .agg #[.int .i64 r, .bool false, .slice none 0 0, .int .i64 0]) (by simp [results, Tryz.results24, go_sem, q0, q1, q2, q3, hrM]) rfl ⟨?_, .inl ⟨r, ?_, ?_, rfl⟩⟩
      · iterate 4 (refine Below.setCell ?_ (by show w.heap.size ≤ B + 1 + 1; omega) _)
        exact HO.out.below
      · rw [Int.toNat_natCast, HSN.out]; exact HF.out
      · unfold i64ok; omega
    · obtain ⟨f, hf⟩ : ∃ f, gk = f + 1 := ⟨gk - 1, by omega⟩
      have d1 : decide (r < (M : Int)) = true := decide_eq_true (by omega)
      have hw1 : IntKind.i64.wrap (r + 1) = r + 1 := IntWalk.i64_in _ (by omega)
      have HF := Lib.hid (show runF g n M sn 0 = runF g n (f + 1) s r by rw [← hf]; exact HI.out.1)
      obtain ⟨sa, sg⟩ := s
      have e0 : wr.cell? ⟨B + 1 + 1 + 1 + 1, 0, none⟩ = some (.int .u64 sa) := HO.out.sd.cell 0
      have e1 : wr.cell? ⟨B + 1 + 1 + 1 + 1, 1, none⟩ = some (.int .u64 sg) := HO.out.sd.cell 1
      have HC1 := Lib.hid (SplitOf_any sa sg wr)
      obtain ⟨lf, hlf⟩ : ∃ lf, (Seed.mk sa sg).left = lf := ⟨_, rfl⟩
      obtain ⟨ow, how⟩ : ∃ ow, (Seed.mk sa sg).own = ow := ⟨_, rfl⟩
      obtain ⟨la, lg⟩ := lf
      obtain ⟨oa, og⟩ := ow
      rw [hlf, how] at HC1
      have HLO := Lib.hid (And.intro hlf how)
      simp only [seedV] at HC1
      clear hlf how
      go_wp2_with fail
      refine HC1.out.mono ?_
      clear HC1 p0 p1 p2 p3 pf0 pf1 pf2 pf3 e0 e1
      rintro e w1 ⟨rfl, hb1⟩
      have HO1 := Lib.hid (HO.out.on hb1)
      obtain ⟨Q, hQ⟩ : ∃ Q, w1.heap.size = Q := ⟨_, rfl⟩
      obtain ⟨w2, hw2⟩ : ∃ w2, w2 = (w1.alloc (.cells #[.int .u64 la, .int .u64 lg] 87)).alloc (.cells #[.int .u64 oa, .int .u64 og] 87) := ⟨_, rfl⟩
      have hb2 : Below w1.heap.size w1 w2 := by rw [hw2]; exact ((Below.refl w1.heap.size w1).alloc (Nat.le_refl _) _).alloc (by simp) _
      have kl : Blk w2 Q 87 #[.int .u64 la, .int .u64 lg] := by rw [hw2, ← hQ]; exact (Blk.new _ _ _).alloc _
      have ko : Blk w2 (Q + 1) 87 #[.int .u64 oa, .int .u64 og] := by rw [hw2, ← hQ]; have := Blk.new (w1.alloc (.cells #[.int .u64 la, .int .u64 lg] 87)) 87 #[.int .u64 oa, .int .u64 og]; simpa using this
      have HO2 := Lib.hid (HO1.out.on hb2)
      have hQB : B + 1 + 1 + 1 + 1 < Q := by rw [← hQ]; exact HO1.out.sd.lt
      obtain ⟨w3, hw3⟩ : ∃ w3, w3 = ((w2.setCell ⟨B + 1 + 1 + 1 + 1, 0, none⟩ (.int .u64 la)).setCell ⟨B + 1 + 1 + 1 + 1, 1, none⟩ (.int .u64 lg)).setCell ⟨B + 1 + 1 + 1, 0, none⟩ (.int .i64 (r + 1)) := ⟨_, rfl⟩
      have hnx := HO2.out.next hB (r2 := r + 1) (s2 := ⟨la, lg⟩) hw3
      have HO3 := Lib.hid hnx.1
      have HKO := Lib.hid (show Blk w3 (Q + 1) 87 #[.int .u64 oa, .int .u64 og] from ko.same (hnx.2 _ (by omega) (by omega)))
      have HW2 := Lib.hid hw2
      have HW3 := Lib.hid hw3
      have HKL := Lib.hid kl
      clear hb1 hb2 kl ko hw2 hw3 hnx
      go_upto_region 5 with fail
      rw [← HW2.out]
      have l0 : w2.cell? ⟨Q, 0, none⟩ = some (.int .u64 la) := HKL.out.cell 0
      have l1 : w2.cell? ⟨Q, 1, none⟩ = some (.int .u64 lg) := HKL.out.cell 1
      have e0 : w2.cell? ⟨B + 1 + 1 + 1 + 1, 0, none⟩ = some (.int .u64 sa) := HO2.out.sd.cell 0
      have e1 : w2.cell? ⟨B + 1 + 1 + 1 + 1, 1, none⟩ = some (.int .u64 sg) := HO2.out.sd.cell 1
      have ef0 := HO2.out.sd.froz 0
      have ef1 := HO2.out.sd.froz 1
      have p0 : w2.cell? ⟨B + 1 + 1 + 1, 0, none⟩ = some (.int .i64 r) := HO2.out.rep.cell 0
      have pf0 := HO2.out.rep.froz 0
      go_upto_region 7 with fail
      rw [← HW3.out]
      clear l0 l1 e0 e1 ef0 ef1 p0 pf0
      have c0 : w3.cell? ⟨B, 0, none⟩ = some (.int .i64 gK) := HO3.out.kg.cell 0
      have c1 : w3.cell? ⟨B, 1, none⟩ = some (.int .i64 xa) := HO3.out.kg.cell 1
      have c2 : w3.cell? ⟨B, 2, none⟩ = some (.int .i64 gb) := HO3.out.kg.cell 2
      have c3 : w3.cell? ⟨B, 3, none⟩ = some (.slice gao gn gc) := HO3.out.kg.cell 3
      have o0 : w3.cell? ⟨Q + 1, 0, none⟩ = some (.int .u64 oa) := HKO.out.cell 0
      have o1 : w3.cell? ⟨Q + 1, 1, none⟩ = some (.int .u64 og) := HKO.out.cell 1
      have HC2 := Lib.hid (HDR.out oa og w3 (by rw [← HSH.out]; exact HV.out.1.on HO3.out.below))
      have hd6 := draw_len HV.out.2.2 ⟨oa, og⟩
      obtain ⟨d, hd⟩ : ∃ d, draw g ⟨oa, og⟩ = d := ⟨_, rfl⟩
      have HD := Lib.hid hd
      obtain ⟨dn, hdn⟩ : ∃ dn, d.length = dn := ⟨_, rfl⟩
      have HDN := Lib.hid hdn
      rw [hd] at HC2 hd6
      rw [hdn] at HC2 hd6
      clear hd hdn
      go_wp2_with fail
      refine HC2.out.mono ?_
      clear HC2 c0 c1 c2 c3 o0 o1
      rintro e w4 ⟨⟨lo, lc, rfl, hown⟩, hb4⟩
      have HO4 := Lib.hid (HO3.out.on hb4)
      have HOW := Lib.hid (show w4.ownsRow w3.heap.size 3 1 (.slice lo d.length lc) d.length (d.map (.int .i64)) by rw [HDN.out]; exact hown)
      have HC3 := Lib.hid (HBT.out d lo lc (by rw [HDN.out]; omega) w4 (IntsAt.of_owns HOW.out) (by rw [← HSH.out]; exact HV.out.1.on HO4.out.below) ((show Blk w eb _ _ from HV.out.2.1).below HO4.out.below))
      rw [HDN.out] at HC3
      have c0 : w4.cell? ⟨B, 0, none⟩ = some (.int .i64 gK) := HO4.out.kg.cell 0
      have c1 : w4.cell? ⟨B, 1, none⟩ = some (.int .i64 xa) := HO4.out.kg.cell 1
      have c2 : w4.cell? ⟨B, 2, none⟩ = some (.int .i64 gb) := HO4.out.kg.cell 2
      have c3 : w4.cell? ⟨B, 3, none⟩ = some (.slice gao gn gc) := HO4.out.kg.cell 3
      have x0 : w4.cell? ⟨B + 1, 0, none⟩ = some (.int .i64 7) := HO4.out.kx.cell 0
      have x1 : w4.cell? ⟨B + 1, 1, none⟩ = some (.int .i64 0) := HO4.out.kx.cell 1
      have x2 : w4.cell? ⟨B + 1, 2, none⟩ = some (.slice (some ⟨eb, 0, none⟩) 2 2) := HO4.out.kx.cell 2
      clear hown hb4
      cases hbad : bad g n d with
      | false =>
        rw [hbad] at HC3
        have HN := Lib.hid (show runF g n M sn 0 = runF g n f ⟨la, lg⟩ (r + 1) by
          rw [HF.out, runF_ok (by rw [HLO.out.2, HD.out]; exact hbad), HLO.out.1])
        clear hbad
        go_wp2_with fail
        refine HC3.out.mono ?_
        clear HC3 c0 c1 c2 c3 x0 x1 x2
        rintro e w5 ⟨rfl, hb5⟩
        have HO5 := Lib.hid (HO4.out.on hb5)
        clear hb5
        go_wp2_with fail
        go_roundg f
        case rel => exact ⟨r + 1, ⟨la, lg⟩, by omega, by omega, Lib.hid ⟨HN.out, HO5.out⟩⟩
        case measure => omega
      | true =>
        rw [hbad] at HC3
        have HN := Lib.hid (show runF g n M sn 0 = (r + 1, some (walk g n d)) by
          rw [HF.out, runF_bad (by rw [HLO.out.2, HD.out]; exact hbad), HLO.out.2, HD.out])
        clear hbad
        go_wp2_with fail
        refine HC3.out.mono ?_
        clear HC3 c0 c1 c2 c3 x0 x1 x2
        rintro e w5 ⟨rfl, hb5⟩
        have HO5 := Lib.hid (HO4.out.on hb5)
        obtain ⟨w6, hw6⟩ : ∃ w6, w6 = w5.setCell ⟨B + 1 + 1 + 1, 1, none⟩ (.bool true) := ⟨_, rfl⟩
        have hs6 : ∀ q, q ≠ B + 1 + 1 + 1 → w6.heap[q]? = w5.heap[q]? := fun q hq => by rw [hw6, Below.heap_setCell _ _ _ _ hq]
        have hb6 : Below w.heap.size w w6 := by rw [hw6]; exact HO5.out.below.setCell (by show w.heap.size ≤ B + 1 + 1 + 1; omega) _
        have kr6 : Blk w6 (B + 1 + 1 + 1) 66 #[.int .i64 (r + 1), .bool true, .slice none 0 0, .int .i64 0] := by rw [hw6]; have k := HO5.out.rep.set 1 (.bool true); simpa using k
        have kz6 : Blk w6 (B + 1 + 1) 66 #[.int .i64 0, .bool false, .slice none 0 0, .int .i64 0] := HO5.out.res.same (hs6 _ (by omega))
        have kg6 : Blk w6 B 28 #[.int .i64 gK, .int .i64 xa, .int .i64 gb, .slice gao gn gc] := HO5.out.kg.same (hs6 _ (by omega))
        have kx6 : Blk w6 (B + 1) 41 #[.int .i64 7, .int .i64 0, .slice (some ⟨eb, 0, none⟩) 2 2] := HO5.out.kx.same (hs6 _ (by omega))
        have ho6 : w6.ownsRow w3.heap.size 3 1 (.slice lo d.length lc) d.length (d.map (.int .i64)) := by
          have ho := owns_below HOW.out hb5
          have h3 : B + 1 + 1 + 1 < w3.heap.size := HO3.out.rep.lt
          exact owns_same ho fun q hq => hs6 q (by have := (ho.lt q hq).1; omega)
        obtain ⟨xr, hxr⟩ := draw_replay HV.out.2.2 ⟨oa, og⟩
        rw [HD.out] at hxr
        have HC4 := Lib.hid (HWK.out d lo lc (replay_tape1 HV.out.2.2 hxr) (by rw [HDN.out]; exact hd6) (own_cap2 HOW.out) w6 ((show Blk w eb _ _ from HV.out.2.1).below hb6) (by rw [← HSH.out]; exact HV.out.1.on hb6) (IntsAt.of_owns ho6) (Ty3.of_owns ho6))
        rw [HDN.out] at HC4
        have H6 := Lib.hid (And.intro hb6 (And.intro kr6 (And.intro kz6 (And.intro kg6 kx6))))
        have HW6 := Lib.hid hw6
        clear hb5 hw6 hs6 hb6 kr6 kz6 kg6 kx6 ho6 hxr
        have p0 : w5.cell? ⟨B + 1 + 1 + 1, 0, none⟩ = some (.int .i64 (r + 1)) := HO5.out.rep.cell 0
        have p1 : w5.cell? ⟨B + 1 + 1 + 1, 1, none⟩ = some (.bool false) := HO5.out.rep.cell 1
        have p2 : w5.cell? ⟨B + 1 + 1 + 1, 2, none⟩ = some (.slice none 0 0) := HO5.out.rep.cell 2
        have p3 : w5.cell? ⟨B + 1 + 1 + 1, 3, none⟩ = some (.int .i64 0) := HO5.out.rep.cell 3
        have pf0 : w5.frozen? ⟨B + 1 + 1 + 1, 0, none⟩ = false := HO5.out.rep.froz 0
        have pf1 : w5.frozen? ⟨B + 1 + 1 + 1, 1, none⟩ = false := HO5.out.rep.froz 1
        have pf2 : w5.frozen? ⟨B + 1 + 1 + 1, 2, none⟩ = false := HO5.out.rep.froz 2
        have pf3 : w5.frozen? ⟨B + 1 + 1 + 1, 3, none⟩ = false := HO5.out.rep.froz 3
        go_upto_region 10 with fail
        rw [← HW6.out]
        clear p0 p1 p2 p3 pf0 pf1 pf2 pf3
        have c0 : w6.cell? ⟨B, 0, none⟩ = some (.int .i64 gK) := H6.out.2.2.2.1.cell 0
        have c1 : w6.cell? ⟨B, 1, none⟩ = some (.int .i64 xa) := H6.out.2.2.2.1.cell 1
        have c2 : w6.cell? ⟨B, 2, none⟩ = some (.int .i64 gb) := H6.out.2.2.2.1.cell 2
        have c3 : w6.cell? ⟨B, 3, none⟩ = some (.slice gao gn gc) := H6.out.2.2.2.1.cell 3
        have x0 : w6.cell? ⟨B + 1, 0, none⟩ = some (.int .i64 7) := H6.out.2.2.2.2.cell 0
        have x1 : w6.cell? ⟨B + 1, 1, none⟩ = some (.int .i64 0) := H6.out.2.2.2.2.cell 1
        have x2 : w6.cell? ⟨B + 1, 2, none⟩ = some (.slice (some ⟨eb, 0, none⟩) 2 2) := H6.out.2.2.2.2.cell 2
        go_wp2_with fail
        refine HC4.out.mono ?_
        clear HC4 c0 c1 c2 c3 x0 x1 x2
        rintro e w7 ⟨⟨uo, uc, rfl, hat7, hl7, ht7, hk7, hty7⟩, hb7⟩
        obtain ⟨⟨u, k⟩, hwk⟩ : ∃ q : List Int × Int, walk g n d = q := ⟨_, rfl⟩
        rw [hwk] at hat7 hl7 ht7 hk7 HN ⊢
        simp only at hat7 hl7 ht7 hk7
        obtain ⟨ul, hul⟩ : ∃ ul, u.length = ul := ⟨_, rfl⟩
        have kr7 := H6.out.2.1.below hb7
        have kz7 := H6.out.2.2.1.below hb7
        obtain ⟨w8, hw8⟩ : ∃ w8, w8 = (w7.setCell ⟨B + 1 + 1 + 1, 2, none⟩ (.slice uo ul uc)).setCell ⟨B + 1 + 1 + 1, 3, none⟩ (.int .i64 k) := ⟨_, rfl⟩
        have hs8 : ∀ q, q ≠ B + 1 + 1 + 1 → w8.heap[q]? = w7.heap[q]? := fun q hq => by rw [hw8, Below.heap_setCell _ _ _ _ hq, Below.heap_setCell _ _ _ _ hq]
        have hb8 : Below w.heap.size w w8 := by rw [hw8]; exact ((H6.out.1.trans (hb7.mono H6.out.1.size)).setCell (by show w.heap.size ≤ B + 1 + 1 + 1; omega) _).setCell (by show w.heap.size ≤ B + 1 + 1 + 1; omega) _
        have kr8 : Blk w8 (B + 1 + 1 + 1) 66 #[.int .i64 (r + 1), .bool true, .slice uo ul uc, .int .i64 k] := by rw [hw8]; have k := (kr7.set 2 (.slice uo ul uc)).set 3 (.int .i64 k); simpa using k
        have kz8 : Blk w8 (B + 1 + 1) 66 #[.int .i64 0, .bool false, .slice none 0 0, .int .i64 0] := kz7.same (hs8 _ (by omega))
        have hne8 : ∀ b o, uo = some ⟨b, o, none⟩ → b ≠ B + 1 + 1 + 1 ∧ b ≠ B + 1 + 1 := fun b o hb => ⟨hty7.ne kr7 (by decide) hb, hty7.ne kz7 (by decide) hb⟩
        have H8 := Lib.hid (And.intro hb8 (And.intro kr8 kz8))
        have HW8 := Lib.hid hw8
        have p0 : w7.cell? ⟨B + 1 + 1 + 1, 0, none⟩ = some (.int .i64 (r + 1)) := kr7.cell 0
        have p1 : w7.cell? ⟨B + 1 + 1 + 1, 1, none⟩ = some (.bool true) := kr7.cell 1
        have p2 : w7.cell? ⟨B + 1 + 1 + 1, 2, none⟩ = some (.slice none 0 0) := kr7.cell 2
        have p3 : w7.cell? ⟨B + 1 + 1 + 1, 3, none⟩ = some (.int .i64 0) := kr7.cell 3
        have pf0 : w7.frozen? ⟨B + 1 + 1 + 1, 0, none⟩ = false := kr7.froz 0
        have pf1 : w7.frozen? ⟨B + 1 + 1 + 1, 1, none⟩ = false := kr7.froz 1
        have pf2 : w7.frozen? ⟨B + 1 + 1 + 1, 2, none⟩ = false := kr7.froz 2
        have pf3 : w7.frozen? ⟨B + 1 + 1 + 1, 3, none⟩ = false := kr7.froz 3
        have HU := Lib.hid (And.intro hat7 (And.intro hl7 (And.intro ht7 (And.intro hk7 (And.intro hul (And.intro hs8 hty7))))))
        rw [hul]
        clear hat7 hl7 ht7 hk7 hty7 hb7 hul kr7 kz7 hw8 hb8 kr8 kz8 hs8 hwk
        go_upto_region 11 with fail
        rw [← HW8.out]
        clear p0 p1 p2 p3 pf0 pf1 pf2 pf3
        have p0 : w8.cell? ⟨B + 1 + 1 + 1, 0, none⟩ = some (.int .i64 (r + 1)) := H8.out.2.1.cell 0
        have p1 : w8.cell? ⟨B + 1 + 1 + 1, 1, none⟩ = some (.bool true) := H8.out.2.1.cell 1
        have p2 : w8.cell? ⟨B + 1 + 1 + 1, 2, none⟩ = some (.slice uo ul uc) := H8.out.2.1.cell 2
        have p3 : w8.cell? ⟨B + 1 + 1 + 1, 3, none⟩ = some (.int .i64 k) := H8.out.2.1.cell 3
        have q0 : w8.cell? ⟨B + 1 + 1, 0, none⟩ = some (.int .i64 0) := H8.out.2.2.cell 0
        have q1 : w8.cell? ⟨B + 1 + 1, 1, none⟩ = some (.bool false) := H8.out.2.2.cell 1
        have q2 : w8.cell? ⟨B + 1 + 1, 2, none⟩ = some (.slice none 0 0) := H8.out.2.2.cell 2
        have q3 : w8.cell? ⟨B + 1 + 1, 3, none⟩ = some (.int .i64 0) := H8.out.2.2.cell 3
        have qf0 : w8.frozen? ⟨B + 1 + 1, 0, none⟩ = false := H8.out.2.2.froz 0
        have qf1 : w8.frozen? ⟨B + 1 + 1, 1, none⟩ = false := H8.out.2.2.froz 1
        have qf2 : w8.frozen? ⟨B + 1 + 1, 2, none⟩ = false := H8.out.2.2.froz 2
        have qf3 : w8.frozen? ⟨B + 1 + 1, 3, none⟩ = false := H8.out.2.2.froz 3
        go_wp2_with fail
        refine bodyPost_ret (v := .agg #[.int .i64 (r + 1), .bool true, .slice uo ul uc, .int .i64 k]) (by simp [results, Tryz.results24, go_sem, q0, q1, q2, q3]) rfl ⟨?_, .inr ⟨r + 1, u, k, uo, uc, ?_, ?_, HU.out.2.2.2.1, HU.out.2.1, HU.out.2.2.1, ?_, ?_, ?_⟩⟩
        · iterate 4 (refine Below.setCell ?_ (by show w.heap.size ≤ B + 1 + 1; omega) _)
          exact H8.out.1
        · rw [Int.toNat_natCast, HSN.out]; exact HN.out
        · unfold i64ok; omega
        · rw [HU.out.2.2.2.2.1]
        · intro j hj
          obtain ⟨b, o, h1, h2⟩ := HU.out.1 j hj
          obtain ⟨m1, m2⟩ := hne8 b o h1
          refine ⟨b, o, h1, ?_⟩
          rw [← h2]
          refine World.cell?_of_block ?_
          show _ = w7.heap[b]?
          rw [← HU.out.2.2.2.2.2.1 b m1]
          repeat (rw [Below.heap_setCell _ _ _ _ m2])
        · intro b o h1
          obtain ⟨m1, m2⟩ := hne8 b o h1
          obtain ⟨cs, hcs⟩ := HU.out.2.2.2.2.2.2 b o h1
          refine ⟨cs, ?_⟩
          rw [← hcs, ← HU.out.2.2.2.2.2.1 b m1]
          repeat (rw [Below.heap_setCell _ _ _ _ m2])
end Go.Proofs.YtalbllijahiiiaaGreatDoor
end

section
namespace Go.Proofs.YtalbllijahiiiaaGreatDoor
open Go.RowKit Go.Mine Go.Mine.Desk

theorem pow_div {c : Int} (hc : 0 < c) (k : Nat) : c ^ (k + 1) / c = c ^ k := by
  rw [Int.pow_succ]
  exact Int.mul_ediv_cancel _ (by omega)
theorem digsN_step (c : Int) (j : Nat) (i : Int) : digsN c (j + 1) i = i / c ^ j :: digsN c j (i % c ^ j) := rfl
def NthTPost (l : List Int) (w : World) (e : Ending) (w' : World) : Prop := (∃ ao cc, e = .returned (.slice ao l.length cc) ∧ IntsAt .i64 w' ao l) ∧ Below w.heap.size w w'
structure NTI (w : World) (B : Nat) (c : Int) (k : Nat) (full : List Int) (j : Nat) (i : Int) (zs : List Int) (ov : Value) (W : World) : Prop where
  below : Below w.heap.size w W
  row : W.ownsRow (B + 1) 3 1 ov zs.length (zs.map (.int .i64))
  len : zs.length = j + 1
  eqn : full = zs ++ digsN c (k - j) i
  i0 : 0 ≤ i
  i2 : i ≤ 1048576
  size : B + 1 ≤ W.heap.size
set_option maxRecDepth 100000 in
set_option maxHeartbeats 4000000 in
theorem NthTape_many (n a b : Int) (gb : Nat) (hr : (G.many n a b).right) (i : Int) (h0 : 0 ≤ i) (h1 : i < cnt (.many n a b)) (hc : cnt (.many n a b) ≤ 1048576) (w : World) (hs : SubAt w gb a b) :
    Calls Tryz.prog 23 #[manyG n gb, .int .i64 i] w (NthTPost (nth (.many n a b) i) w) := by
  obtain ⟨i1, hj1, hy0, hy1, hy2⟩ := info_parts infoI3d
  have htot := tot_cnt hr hc
  obtain ⟨hn0, hn5, ha, hb, hab, hba⟩ := hr
  obtain ⟨w0, hw0⟩ : ∃ w0, w0 = w.alloc (.cells #[.int .i64 4, .int .i64 n, .int .i64 0, .slice (some ⟨gb, 0, none⟩) 1 1] 28) := ⟨_, rfl⟩
  have hb0 : Below w.heap.size w w0 := by rw [hw0]; exact (Below.refl _ _).alloc (Nat.le_refl _) _
  obtain ⟨B, hB⟩ : ∃ B, w.heap.size = B := ⟨_, rfl⟩
  have kg : Blk w0 B 28 #[.int .i64 4, .int .i64 n, .int .i64 0, .slice (some ⟨gb, 0, none⟩) 1 1] := by rw [hw0, ← hB]; exact Blk.new _ _ _
  have ks := hs.on hb0
  have HC := Lib.hid (CountOf_int a b ⟨ha, hb, hab, hba⟩ w0)
  obtain ⟨c, hcc⟩ : ∃ c, b - a + 1 = c := ⟨_, rfl⟩
  rw [hcc] at HC
  have hc1 : 1 ≤ c := by omega
  have hc2 : c ≤ 1001 := by omega
  have hmW : mW (.many n a b) 0 = fun k => c ^ k := by rw [mW_many, hcc]
  have HMW := Lib.hid hmW
  have hbr : brN (.many n a b) = n.toNat + 1 := by rw [brN_many]; omega
  have HTOT := Lib.hid (show i < tot (mW (.many n a b) 0) (brN (.many n a b)) by rw [htot]; exact h1)
  have HBR := Lib.hid hbr
  have HNTH := Lib.hid (show nth (.many n a b) i = ((findK (mW (.many n a b) 0) (brN (.many n a b)) 0 i).1 : Int) :: digsN c ((findK (mW (.many n a b) 0) (brN (.many n a b)) 0 i).1) (findK (mW (.many n a b) 0) (brN (.many n a b)) 0 i).2 by rw [← hcc]; rfl)
  have HFK := Lib.hid (show FK (mW (.many n a b) 0) (brN (.many n a b)) 0 i i from FK.start h0)
  have g0 : w0.cell? ⟨B, 0, none⟩ = some (.int .i64 4) := kg.cell 0
  have g3 : w0.cell? ⟨B, 3, none⟩ = some (.slice (some ⟨gb, 0, none⟩) 1 1) := kg.cell 3
  have s0 := ks.c0
  have s1 := ks.c1
  have s2 := ks.c2
  have s3 := ks.c3
  have hi20 : i ≤ 1048576 := by omega
  have HW := Lib.hid hw0
  have HB := Lib.hid (And.intro hb0 kg.lt)
  clear hw0 hb0 kg ks hs ha hb hab hba htot hmW hbr h1 hc hcc
  go_enter Tryz.func23, Tryz.ntmps23
  go_upto_region 1 with fail
  rw [← HW.out]
  go_wp2_with fail
  refine HC.out.mono ?_
  clear HC g0 g3 s0 s1 s2 s3
  rintro e w1 ⟨rfl, hb1⟩
  have H1 := Lib.hid (And.intro (HB.out.1.trans (hb1.mono HB.out.1.size)) (show B + 1 ≤ w1.heap.size from Nat.le_trans HB.out.2 hb1.size))
  clear hb1
  go_wp2_with fail
  go_loopg [1, 6, 7] (n.toNat + 1) (fun gq iv nv pv wr => ∃ (k : Nat) (x : Int), iv = .int .i64 x ∧ nv = .int .i64 (k : Int) ∧ pv = .int .i64 (c ^ k) ∧ k + gq = n.toNat + 1 ∧ RowKit.Hid (wr = w1 ∧ FK (mW (.many n a b) 0) (brN (.many n a b)) k x i))
  case atStart => exact ⟨0, i, rfl, rfl, by rw [Int.pow_zero], by omega, Lib.hid ⟨rfl, HFK.out⟩⟩
  case round =>
    obtain ⟨k, x, rfl, rfl, rfl, hkg, HI⟩ := hrel
    have hkn : k < n.toNat + 1 := by
      have h := HI.out.2.more HTOT.out (by rw [HBR.out]; omega)
      rw [HBR.out] at h
      exact h
    have hx0 := HI.out.2.nn
    have hxi := HI.out.2.le
    obtain ⟨q0, q1⟩ := pow_le (c := c) (by omega) hc2 (show k ≤ 5 by omega)
    have HPW := Lib.hid (Int.pow_succ c k)
    have hpc0 : 0 ≤ c ^ k * c := Int.mul_nonneg q0 (by omega)
    have hpc1 : c ^ k * c ≤ 1006015020015006001 := by
      have h := Int.mul_le_mul q1 hc2 (by omega) (by decide : (0 : Int) ≤ 1005010010005001)
      omega
    obtain ⟨p, hp⟩ : ∃ p, c ^ k = p := ⟨_, rfl⟩
    have HP := Lib.hid hp
    rw [hp] at q0 q1 hpc0 hpc1 HPW ⊢
    have HWR := Lib.hid HI.out.1
    clear hp
    by_cases hge : p ≤ x
    · have d1 : decide (p ≤ x) = true := decide_eq_true hge
      have hw1 : IntKind.i64.wrap (x - p) = x - p := IntWalk.i64_in _ (by omega)
      have hw2 : IntKind.i64.wrap (p * c) = p * c := IntWalk.i64_in _ (by omega)
      have hw3 : IntKind.i64.wrap ((k : Int) + 1) = ((k + 1 : Nat) : Int) := by rw [IntWalk.i64_in _ (by omega)]; omega
      have HN := Lib.hid (show FK (mW (.many n a b) 0) (brN (.many n a b)) (k + 1) (x - p) i by
        have hm : mW (.many n a b) 0 k = p := by rw [HMW.out]; exact HP.out
        have h := HI.out.2.next (by rw [HBR.out]; exact hkn) (by rw [hm]; omega) (by rw [hm]; exact q0)
        rw [hm] at h
        exact h)
      go_wp2_with fail
      go_roundg (gk - 1)
      case rel => exact ⟨k + 1, x - p, rfl, by go_num, by rw [HPW.out], by omega, Lib.hid ⟨HWR.out, HN.out⟩⟩
      case measure => omega
    · have d1 : decide (p ≤ x) = false := decide_eq_false hge
      have HF := Lib.hid (show findK (mW (.many n a b) 0) (brN (.many n a b)) 0 i = (k, x) by
        have hm : mW (.many n a b) 0 k = p := by rw [HMW.out]; exact HP.out
        exact HI.out.2.hit (by rw [HBR.out]; exact hkn) (by rw [hm]; omega))
      have HNT := Lib.hid (show nth (.many n a b) i = (k : Int) :: digsN c k x by rw [HNTH.out, HF.out])
      have hwe := HWR.out
      obtain ⟨w2, hw2⟩ : ∃ w2, w2 = wr.alloc (.cells #[.int .i64 (k : Int)] 3) := ⟨_, rfl⟩
      have HI2 := Lib.hid (show NTI w B c k (nth (.many n a b) i) 0 x [(k : Int)] (.slice (some ⟨wr.heap.size, 0, none⟩) 1 1) w2 from by
        have hsz : B + 1 ≤ wr.heap.size := by rw [hwe]; exact H1.out.2
        have hbw : Below w.heap.size w wr := by rw [hwe]; exact H1.out.1
        refine ⟨by rw [hw2]; exact hbw.alloc hbw.size _, ?_, rfl, by rw [HNT.out]; rfl, hx0, by omega, by rw [hw2]; simp; omega⟩
        rw [hw2]
        have h := World.ownsRow_lit (base := B + 1) (e := 3) (size := 1) wr #[.int .i64 (k : Int)] 1 hsz (by unfold maxLen; omega) rfl
        simpa using h)
      have HW2 := Lib.hid hw2
      obtain ⟨Q, hQ⟩ : ∃ Q, wr.heap.size = Q := ⟨_, rfl⟩
      have hk5 : k ≤ 5 := by omega
      rw [hQ] at HI2
      clear hw2 hwe hpc0 hpc1 HPW q0 q1 hkg hxi HI HFK
      have HXP := Lib.hid (And.intro hx0 HP.out)
      clear hx0
      go_upto_region 11 with fail
      rw [← HW2.out]
      clear d1 hge
      go_wp2_with fail
      go_loopg [1, 7, 8, 9] k (fun gq iv pv ov jv wr => ∃ (j : Nat) (x : Int) (zs : List Int), iv = .int .i64 x ∧ pv = .int .i64 (c ^ (k - j)) ∧ jv = .int .i64 (j : Int) ∧ j + gq = k ∧ RowKit.Hid (NTI w B c k (nth (.many n a b) i) j x zs ov wr))
      case atStart => exact ⟨0, x, [(k : Int)], rfl, by rw [Nat.sub_zero, HXP.out.2], rfl, by omega, HI2⟩
      case round =>
        obtain ⟨j, y, zs, rfl, rfl, rfl, hjk, HJ⟩ := hrel
        rcases Nat.eq_zero_or_pos gk with hz | hz
        · obtain rfl : j = k := by omega
          have d2 : decide ((j : Int) < (j : Int)) = false := decide_eq_false (by omega)
          obtain ⟨oo, oc, rfl⟩ := owns_shape HJ.out.row
          have HE := Lib.hid (show nth (.many n a b) i = zs by
            have h := HJ.out.eqn
            rw [Nat.sub_self] at h
            rw [h]
            exact List.append_nil zs)
          go_wp2_with fail
          go_ret
          rw [HE.out]
          exact ⟨⟨oo, oc, rfl, IntsAt.of_owns HJ.out.row⟩, HJ.out.below⟩
        · obtain ⟨m, hm⟩ : ∃ m, k - j = m + 1 := ⟨k - j - 1, by omega⟩
          have hm2 : k - (j + 1) = m := by omega
          have d2 : decide ((j : Int) < (k : Int)) = true := decide_eq_true (by omega)
          have hpd : (c ^ (m + 1)).tdiv c = c ^ m := by
            rw [Int.tdiv_eq_ediv_of_nonneg (pow_le (by omega) hc2 (by omega)).1]
            exact pow_div (by omega) m
          obtain ⟨q0, q1⟩ := pow_le (c := c) (by omega) hc2 (show m ≤ 5 by omega)
          have qpos : 0 < c ^ m := Int.pow_pos (by omega)
          have HST := Lib.hid (digsN_step c m y)
          rw [hm]
          obtain ⟨P, hP⟩ : ∃ P, c ^ (m + 1) = P := ⟨_, rfl⟩
          obtain ⟨p2, hp2⟩ : ∃ p2, c ^ m = p2 := ⟨_, rfl⟩
          rw [hP, hp2] at hpd
          rw [hp2] at q0 q1 qpos HST
          rw [hP]
          have HP2 := Lib.hid hp2
          have hyy0 := HJ.out.i0
          have hpw : IntKind.i64.wrap p2 = p2 := IntWalk.i64_in _ (by omega)
          have hpw2 : wrap64 p2 = p2 := by unfold wrap64; omega
          have hdv : y.tdiv p2 = y / p2 := Int.tdiv_eq_ediv_of_nonneg hyy0
          have hmd : y.tmod p2 = y % p2 := Int.tmod_eq_emod_of_nonneg hyy0
          have hdn0 : 0 ≤ y / p2 := Int.ediv_nonneg hyy0 (by omega)
          have hmn0 : 0 ≤ y % p2 := Int.emod_nonneg _ (by omega)
          have hmlt : y % p2 < p2 := Int.emod_lt_of_pos _ qpos
          have hy2' := HJ.out.i2
          have hdn1 : y / p2 ≤ y := Int.ediv_le_self _ hyy0
          have hmn1 : y % p2 ≤ y := by
            have h := Int.emod_add_mul_ediv y p2
            have h2 : 0 ≤ p2 * (y / p2) := Int.mul_nonneg q0 hdn0
            omega
          have hdw : IntKind.i64.wrap (y / p2) = y / p2 := IntWalk.i64_in _ (by omega)
          have hdw2 : wrap64 (y / p2) = y / p2 := by unfold wrap64; omega
          have hmw : IntKind.i64.wrap (y % p2) = y % p2 := IntWalk.i64_in _ (by omega)
          have hmw2 : wrap64 (y % p2) = y % p2 := by unfold wrap64; omega
          have hjw : IntKind.i64.wrap ((j : Int) + 1) = ((j + 1 : Nat) : Int) := by rw [IntWalk.i64_in _ (by omega)]; omega
          obtain ⟨dv, hdve⟩ : ∃ dv, y / p2 = dv := ⟨_, rfl⟩
          obtain ⟨md, hmde⟩ : ∃ md, y % p2 = md := ⟨_, rfl⟩
          rw [hdve] at hdv hdw hdw2 HST hdn0 hdn1
          rw [hmde] at hmd hmw hmw2 HST hmn0 hmn1
          have hpne : ¬ p2 = 0 := by omega
          have hpne2 : (p2 == 0) = false := by rw [beq_eq_false_iff_ne]; exact hpne
          have hcne : ¬ c = 0 := by omega
          have hcne2 : (c == 0) = false := by rw [beq_eq_false_iff_ne]; exact hcne
          obtain ⟨oo, oc, rfl⟩ := owns_shape HJ.out.row
          have hzb : zs.length ≤ 7 := by have := HJ.out.len; omega
          have hszr := HJ.out.size
          have HEQ := Lib.hid (show nth (.many n a b) i = (zs ++ [dv]) ++ digsN c m md by
            have h := HJ.out.eqn
            rw [hm, HST.out] at h
            rw [h, List.append_assoc]
            rfl)
          clear hm hmlt hdve hmde hP hp2
          go_wp2_with (at_builtin; refine wpList_push2 _ rfl _ _ 48 rfl (B + 1) 3 i1 (.int .i64 0) 1 8 Tryz.underlying48 hj1 hy0 hy1 hy2 rfl (by decide) _ _ _ rfl (HJ.out.row.alloc _) ⟨wr.heap.size, 0, none⟩ 1 [.int .i64 dv] rfl rfl (World.news_of_block (cs := #[.int .i64 dv]) (t := 3) (fr := (0, 0)) (heap_alloc_at _ _ rfl)) (one1 _ _) (by unfold maxLen; omega) (by omega) (by simp; omega) ?_)
          intro gq cap w7 hown hgr hat7
          have HJ7 := Lib.hid (show NTI w B c k (nth (.many n a b) i) (j + 1) md (zs ++ [dv]) (.slice (some ⟨gq, 0, none⟩) (zs.length + 1) cap) w7 from ⟨(HJ.out.below.alloc HJ.out.below.size (.cells #[.int .i64 dv] 3)).grown hgr (by have := HJ.out.below.size; simp; omega) (fun q hq => by have := (HJ.out.row.lt q hq).1; omega), by rw [List.length_append, List.map_append]; exact hown, by rw [List.length_append, HJ.out.len]; rfl, by rw [hm2]; exact HEQ.out, hmn0, by omega, by have := hgr.size; simp at this; omega⟩)
          clear hown hgr hat7
          go_wp2_with fail
          go_roundg (gk - 1)
          case rel => exact ⟨j + 1, md, zs ++ [dv], rfl, by rw [hm2, HP2.out], by go_num, by omega, HJ7⟩
          case measure => omega
theorem NthTape_any (g : G) (v : Value) (hr : g.right) (i : Int) (h0 : 0 ≤ i) (h1 : i < cnt g) (hc : cnt g ≤ 1048576) (w : World) (hv : GenAt w v g) :
    Calls Tryz.prog 23 #[v, .int .i64 i] w (NthTPost (nth g i) w) := by
  cases g with
  | many n a b =>
    obtain ⟨gb, rfl, hs⟩ := hv
    exact NthTape_many n a b gb hr i h0 h1 hc w hs
  | int a b =>
    obtain rfl : v = intG a b := hv
    have HN := Lib.hid (show nth (.int a b) i = [i] by
      have hcn : cnt (.int a b) = b - a + 1 := rfl
      rw [hcn] at h1
      have h := nthS_int hr.2.2.1 0 i h0 (by rw [Nat.zero_add, Int.pow_succ, Int.pow_zero, Int.one_mul]; exact h1)
      show nthS (.int a b) 0 i = [i]
      rw [h]
      show [i / (b - a + 1) ^ 0] = [i]
      rw [Int.pow_zero, Int.ediv_one])
    have HB := Lib.hid ((Below.refl w.heap.size w).alloc (Nat.le_refl _) (.cells #[.int .i64 2, .int .i64 a, .int .i64 b, .slice none 0 0] 28))
    have HO := Lib.hid (World.ownsRow_lit (base := w.heap.size) (e := 3) (size := 1) (w.alloc (.cells #[.int .i64 2, .int .i64 a, .int .i64 b, .slice none 0 0] 28)) #[.int .i64 i] 1 HB.out.size (by unfold maxLen; omega) rfl)
    go_enter Tryz.func23, Tryz.ntmps23
    go_wp2_with fail
    go_ret
    rw [HN.out]
    refine ⟨⟨_, _, rfl, ?_⟩, HB.out.alloc HB.out.size _⟩
    have h := IntsAt.of_owns (xs := [i]) (k := .i64) (by simpa using HO.out)
    simpa using h
end Go.Proofs.YtalbllijahiiiaaGreatDoor
end
