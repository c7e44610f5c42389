/- shrink.Walk. rank.Nth, plainly. -/
import Derived.Test.YtalbllijahiiiaaGreatDoorDkAL
import Derived.Deep.LoopGhost
import Derived.Test.YtalbllijahiiiaaGreatDoorDkAB
section
namespace Go.Proofs.YtalbllijahiiiaaGreatDoor
open Go.RowKit Go.Mine Go.Mine.Desk

theorem firstAt_find (f : List Int → Bool) (rows : List (List Int)) : (rows.find? f = none ∧ firstAt f rows = -1) ∨ (∃ i : Nat, i < rows.length ∧ rows.find? f = some (rows.getD i []) ∧ firstAt f rows = (i : Int)) := by
  unfold firstAt
  cases h : rows.findIdx? f with
  | none =>
    refine .inl ⟨?_, rfl⟩
    rw [List.find?_eq_none]
    rw [List.findIdx?_eq_none_iff] at h
    intro x hx
    have := h x hx
    simpa using this
  | some i =>
    rw [List.findIdx?_eq_some_iff_getElem] at h
    obtain ⟨hi, h1, h2⟩ := h
    refine .inr ⟨i, hi, ?_, rfl⟩
    rw [List.find?_eq_some_iff_getElem]
    refine ⟨by simpa [hi] using h1, i, hi, by simp [hi], fun j hj => ?_⟩
    simpa using h2 j hj
theorem playN_tape1 {a m : Int} (hm : m ≤ 1000) : ∀ {k : Nat} {r zs r' : List Int}, playN a m k r = .ok (zs, r') → tape1 r' → tape1 r
  | 0, r, zs, r', h, ht => by simp only [playN, Except.ok.injEq, Prod.mk.injEq] at h; rw [h.2]; exact ht
  | k + 1, [], zs, r', h, _ => by simp [playN] at h
  | k + 1, x :: r, zs, r', h, ht => by
    rw [playN] at h
    split at h
    · cases h
    · rename_i hx
      cases hp : playN a m k r with
      | error e => rw [hp] at h; cases h
      | ok q =>
        obtain ⟨ys, r2⟩ := q
        rw [hp] at h
        simp only [Except.ok.injEq, Prod.mk.injEq] at h
        obtain ⟨rfl, rfl⟩ := h
        have ih := playN_tape1 hm hp ht
        intro z hz
        rcases List.mem_cons.1 hz with rfl | hz
        · omega
        · exact ih z hz
theorem replay_tape1 {g : G} (hr : g.right) {ts : List Int} {x : V} (h : replay g ts = .ok x) : tape1 ts := by
  cases g with
  | int a b =>
    rw [replay] at h
    cases hp : playN a (b - a) 1 ts with
    | error e => rw [hp] at h; cases h
    | ok q =>
      obtain ⟨zs, r⟩ := q
      rw [hp] at h
      simp only at h
      split at h
      · rename_i hr0
        exact playN_tape1 hr.2.2.2 hp (by rw [hr0]; intro z hz; cases hz)
      · cases h
  | many n a b =>
    obtain ⟨hn0, hn5, _, _, _, hba⟩ := hr
    cases ts with
    | nil => cases h
    | cons k l =>
      rw [replay] at h
      split at h
      · cases h
      · rename_i hk
        cases hp : playN a (b - a) k.toNat l with
        | error e => rw [hp] at h; cases h
        | ok q =>
          obtain ⟨zs, r⟩ := q
          rw [hp] at h
          simp only at h
          split at h
          · rename_i hr0
            have := playN_tape1 hba hp (by rw [hr0]; intro z hz; cases hz)
            intro z hz
            rcases List.mem_cons.1 hz with rfl | hz
            · omega
            · exact this z hz
          · cases h
theorem place_bound {l : List Int} (h : tape1 l) (h6 : l.length ≤ 6) : place l ≤ 9223372036854775806 := by
  have e : (1002 : Nat) ^ 6 = 1012060160240192064 := by simp
  have h1 := digs_bound l 0 h
  have h2 : 1002 ^ l.length ≤ 1002 ^ 6 := Nat.pow_le_pow_right (by omega) h6
  obtain ⟨q, hq⟩ : ∃ q, q = (1002 : Nat) ^ 6 := ⟨_, rfl⟩
  have h3 : l.length * q ≤ 6 * q := Nat.mul_le_mul_right q h6
  have h4 : place l = l.length * 1002 ^ 6 + digs 0 l := rfl
  rw [h4]
  rw [← hq] at h2 e ⊢
  omega
def SWPost (g : G) (n : Int) (l : List Int) (w : World) (e : Ending) (w' : World) : Prop :=
  Below w.heap.size w w' ∧ ((∃ c, replay g l = .error c ∧ e = .returned (.tuple #[.slice none 0 0, .int .i64 0, .iface 36 (.int .i64 c)])) ∨
    (∃ x, replay g l = .ok x ∧ bad g n l = false ∧ e = .returned (.tuple #[.slice none 0 0, .int .i64 0, .iface 36 (.int .i64 2)])) ∨
    (∃ x uo uc, replay g l = .ok x ∧ bad g n l = true ∧ e = .returned (.tuple #[.slice uo (walk g n l).1.length uc, .int .i64 (walk g n l).2, .nilIface]) ∧ IntsAt .i64 w' uo (walk g n l).1 ∧ (walk g n l).1.length ≤ 6 ∧ tape1 (walk g n l).1 ∧ i64ok (walk g n l).2 ∧ ∀ q o, uo = some ⟨q, o, none⟩ → w.heap.size ≤ q))
structure WI (mu : List Int → Nat) (g : G) (n : Int) (l m : List Int) (mo : Option Addr) (s : Int) (w w0 wr : World) : Prop where
  below : Below w.heap.size w wr
  on : Below w0.heap.size w0 wr
  at_ : IntsAt .i64 wr mo m
  t1 : tape1 m
  six : m.length ≤ 6
  isbad : bad g n m = true
  eqn : walk g n l = ((walk g n m).1, s + (walk g n m).2)
  s0 : 0 ≤ s
  sb : s + (mu m : Int) ≤ mu l
  low : ∀ q o, mo = some ⟨q, o, none⟩ → w.heap.size ≤ q
theorem wk_start (A : List Int × Int) : A = (A.1, 0 + A.2) := Prod.ext rfl (by show A.2 = 0 + A.2; omega)
theorem wk_next {A B C : List Int × Int} {s : Int} (h : A = (B.1, s + B.2)) (h2 : B = (C.1, C.2 + 1)) : A = (C.1, (s + 1) + C.2) := by
  subst h2
  rw [h]
  exact Prod.ext rfl (by show s + (C.2 + 1) = s + 1 + C.2; omega)
theorem wk_stop {A B : List Int × Int} {m : List Int} {s : Int} (h : A = (B.1, s + B.2)) (h2 : B = (m, 0)) : A.1 = m ∧ A.2 = s := by
  subst h2
  rw [h]
  exact ⟨rfl, by show s + 0 = s; omega⟩
theorem walk_next {g : G} (hr : g.right) (n : Int) {l m : List Int} (h1 : tape1 l) (h2 : l.length ≤ 6) (h : (less g l).find? (bad g n) = some m) : walk g n l = ((walk g n m).1, (walk g n m).2 + 1) := by
  have := walk_step hr n h1 h2
  rw [h] at this
  exact this
theorem walk_stop {g : G} (hr : g.right) (n : Int) {l : List Int} (h1 : tape1 l) (h2 : l.length ≤ 6) (h : (less g l).find? (bad g n) = none) : walk g n l = (l, 0) := by
  have := walk_step hr n h1 h2
  rw [h] at this
  exact this
theorem bad_ok {g : G} {n : Int} {m : List Int} (h : bad g n m = true) : ∃ x, replay g m = .ok x := by
  unfold bad at h
  cases hr : replay g m with
  | error e => rw [hr] at h; cases h
  | ok x => exact ⟨x, rfl⟩
theorem len6 {k : Nat} (h : k ≤ 6) : k ≤ maxLen := by unfold maxLen; omega
structure Mu (g : G) (mu : List Int → Nat) : Prop where
  falls : ∀ l m, tape1 l → m ∈ less g l → tape1 m ∧ m.length ≤ 6 ∧ mu m < mu l
  few : ∀ l, tape1 l → l.length ≤ 6 → mu l ≤ 9223372036854775806
theorem mu_any {g : G} (hr : g.right) : ∃ mu, Mu g mu := ⟨place, fun _ _ h1 h2 => less_place hr h1 h2, fun _ h1 h2 => place_bound h1 h2⟩
set_option maxRecDepth 100000 in
set_option maxHeartbeats 4000000 in
theorem walk_any (g : G) (v : Value) (hr : g.right) (n : Int) (eb : Nat) (l : List Int) (lo : Option Addr) (lc : Nat) (hl : l.length ≤ maxLen) (w : World) (hg : Gl w) (he : ExprAt w eb n) (hv : GenAt w v g) (hat : IntsAt .i64 w lo l) :
    Calls Tryz.prog 124 #[v, wholeE eb, .slice lo l.length lc] w (SWPost g n l w) := by
  obtain ⟨mu, hmu⟩ := mu_any hr
  have HMU := Lib.hid hmu
  clear hmu
  obtain ⟨gk, ga, gb, gao, gn, gc, hsh⟩ := hv.shape
  have hmf : ∀ (fn : Fn) (first cap : Array Value) (w : World), (Instr.makeFunc fn first cap).run Tryz.prog w = .ok (.func fn first cap) w := fun _ _ _ _ => rfl
  have hnn := neq_nil
  obtain ⟨w0, hw0⟩ : ∃ w0, w0 = (w.alloc (.cells #[.int .i64 gk, .int .i64 ga, .int .i64 gb, .slice gao gn gc] 28)).alloc (.cells #[.int .i64 7, .int .i64 0, .slice (some ⟨eb, 0, none⟩) 2 2] 41) := ⟨_, rfl⟩
  have hs0 : w0.heap.size = w.heap.size + 2 := by rw [hw0]; simp
  have hb0 : Below w.heap.size w w0 := by rw [hw0]; exact ((Below.refl w.heap.size w).alloc (Nat.le_refl _) _).alloc (by simp) _
  have k0 : Blk w0 w.heap.size 28 #[.int .i64 gk, .int .i64 ga, .int .i64 gb, .slice gao gn gc] := by rw [hw0]; exact (Blk.new _ _ _).alloc _
  have k1 : Blk w0 (w.heap.size + 1) 41 #[.int .i64 7, .int .i64 0, .slice (some ⟨eb, 0, none⟩) 2 2] := by rw [hw0]; have := Blk.new (w.alloc (.cells #[.int .i64 gk, .int .i64 ga, .int .i64 gb, .slice gao gn gc] 28)) 41 #[.int .i64 7, .int .i64 0, .slice (some ⟨eb, 0, none⟩) 2 2]; simpa using this
  obtain ⟨B, hB⟩ : ∃ B, w.heap.size = B := ⟨_, rfl⟩
  rw [hB] at k0 k1
  have HC0 := Lib.hid (checkR_any g v hr w0 (hv.on hb0))
  have HC1 := Lib.hid (fun (wx : World) (hbx : Below w0.heap.size w0 wx) => expr_check n eb wx ((hg.on hb0).on hbx) (((show Blk w eb _ _ from he).below hb0).below hbx))
  have HC2 := Lib.hid (fun (wx : World) (hbx : Below w0.heap.size w0 wx) => sfails_any g v hr n eb l lo l.length lc rfl hl wx ((hg.on hb0).on hbx) (((show Blk w eb _ _ from he).below hb0).below hbx) ((hv.on hb0).on hbx) ((hat.below (Nat.le_refl _) hb0).below (Nat.le_refl _) hbx))
  have HK := Lib.hid (And.intro hb0 (And.intro k0 k1))
  have HW := Lib.hid hw0
  have HV := Lib.hid (And.intro hv (And.intro hat (And.intro hg (And.intro he hr))))
  have HSH := Lib.hid hsh
  rw [hsh] at HC0 HC2 ⊢
  have c0 : w0.cell? ⟨B, 0, none⟩ = some (.int .i64 gk) := k0.cell 0
  have c1 : w0.cell? ⟨B, 1, none⟩ = some (.int .i64 ga) := k0.cell 1
  have c2 : w0.cell? ⟨B, 2, none⟩ = some (.int .i64 gb) := k0.cell 2
  have c3 : w0.cell? ⟨B, 3, none⟩ = some (.slice gao gn gc) := k0.cell 3
  rw [hw0] at HC0 c0 c1 c2 c3
  clear hw0 hb0 k0 k1 hs0 hv hat hg he hr hsh
  go_enter Tryz.func124, Tryz.ntmps124
  go_wp2_with fail
  refine HC0.out.mono ?_
  clear HC0
  rintro e w1 ⟨rfl, hb1⟩
  rw [← HW.out] at hb1
  have HC1a := Lib.hid (HC1.out w1 hb1)
  have k1 := HK.out.2.2.below hb1
  have e0 : w1.cell? ⟨B + 1, 0, none⟩ = some (.int .i64 7) := k1.cell 0
  have e1 : w1.cell? ⟨B + 1, 1, none⟩ = some (.int .i64 0) := k1.cell 1
  have e2 : w1.cell? ⟨B + 1, 2, none⟩ = some (.slice (some ⟨eb, 0, none⟩) 2 2) := k1.cell 2
  have HB1 := Lib.hid hb1
  clear hb1 k1 c0 c1 c2 c3
  go_wp2_with fail
  refine HC1a.out.mono ?_
  clear HC1a
  rintro e w2 ⟨rfl, hb2⟩
  have hb2' := HB1.out.trans (hb2.mono HB1.out.size)
  have HC2a := Lib.hid (HC2.out w2 hb2')
  have k0 := HK.out.2.1.below hb2'
  have k1 := HK.out.2.2.below hb2'
  have c0 : w2.cell? ⟨B, 0, none⟩ = some (.int .i64 gk) := k0.cell 0
  have c1 : w2.cell? ⟨B, 1, none⟩ = some (.int .i64 ga) := k0.cell 1
  have c2 : w2.cell? ⟨B, 2, none⟩ = some (.int .i64 gb) := k0.cell 2
  have c3 : w2.cell? ⟨B, 3, none⟩ = some (.slice gao gn gc) := k0.cell 3
  have f0 : w2.cell? ⟨B + 1, 0, none⟩ = some (.int .i64 7) := k1.cell 0
  have f1 : w2.cell? ⟨B + 1, 1, none⟩ = some (.int .i64 0) := k1.cell 1
  have f2 : w2.cell? ⟨B + 1, 2, none⟩ = some (.slice (some ⟨eb, 0, none⟩) 2 2) := k1.cell 2
  have HB2 := Lib.hid hb2'
  clear hb2 hb2' k0 k1 e0 e1 e2
  go_wp2_with fail
  refine HC2a.out.mono ?_
  clear HC2a
  rintro e w3 ⟨hb3, hhow⟩
  have hb3' := HB2.out.trans (hb3.mono HB2.out.size)
  have HB3 := Lib.hid (HK.out.1.trans (hb3'.mono HK.out.1.size))
  have HB30 := Lib.hid hb3'
  clear hb3 hb3' c0 c1 c2 c3 f0 f1 f2
  rcases hhow with ⟨x, hx, rfl⟩ | ⟨cc, hx, rfl⟩
  · have hbx : bad g n l = decide (n ≤ total x) := by unfold bad; rw [hx]
    by_cases ht : n ≤ total x
    · rw [decide_eq_true ht] at hbx ⊢
      have HX := Lib.hid (And.intro hx hbx)
      clear hx hbx
      have hl6 := replay_short HV.out.2.2.2.2 HX.out.1
      have HT1 := Lib.hid (replay_tape1 HV.out.2.2.2.2 HX.out.1)
      have HPB := Lib.hid (HMU.out.few l HT1.out hl6)
      have HCL := Lib.hid (clone_any lo lc l (Nat.le_trans hl6 (by decide)) w3 (HV.out.2.1.below (Nat.le_refl _) HB3.out))
      go_wp2_with fail
      refine HCL.out.mono ?_
      clear HCL
      rintro e w4 ⟨⟨co, c2, rfl, hcown⟩, hb4⟩
      have HI0 := Lib.hid (show WI mu g n l l co 0 w w0 w4 from ⟨HB3.out.trans (hb4.mono HB3.out.size), HB30.out.trans (hb4.mono HB30.out.size), IntsAt.of_owns hcown, HT1.out, hl6, HX.out.2, wk_start _, Int.le_refl _, by rw [Int.zero_add]; exact Int.le_refl _, fun q o hq => Nat.le_trans HB3.out.size (hcown.lt q (by rw [hq]; rfl)).1⟩)
      have hent := walk1_enters
      clear hcown hb4
      go_wp2_with fail
      go_loopg [2, 13] (mu l) (fun gq tv sv wr => ∃ (m : List Int) (mo : Option Addr) (mc : Nat) (s : Int), gq = mu m ∧ tv = .slice mo m.length mc ∧ sv = .int .i64 s ∧ RowKit.Hid (WI mu g n l m mo s w w0 wr))
      case atStart => exact ⟨l, co, c2, 0, rfl, rfl, rfl, HI0⟩
      case round =>
        obtain ⟨m, mo, mc, s, rfl, rfl, rfl, HI⟩ := hrel
        obtain ⟨x2, hx2⟩ := bad_ok HI.out.isbad
        have hm6 := HI.out.six
        have HL := Lib.hid (less_any g v HV.out.2.2.2.2 m mo mc (len6 hm6) (fun z hz => by have := HI.out.t1 z hz; unfold i64ok; omega) wr (HV.out.1.on HI.out.below) HI.out.at_)
        rw [HSH.out] at HL
        have hkg := HK.out.2.1.below HI.out.on
        have c0 : wr.cell? ⟨B, 0, none⟩ = some (.int .i64 gk) := hkg.cell 0
        have c1 : wr.cell? ⟨B, 1, none⟩ = some (.int .i64 ga) := hkg.cell 1
        have c2 : wr.cell? ⟨B, 2, none⟩ = some (.int .i64 gb) := hkg.cell 2
        have c3 : wr.cell? ⟨B, 3, none⟩ = some (.slice gao gn gc) := hkg.cell 3
        have HX2 := Lib.hid hx2
        clear hkg hx2
        go_wp2_with fail
        refine HL.out.mono ?_
        clear HL
        rintro e w5 ⟨hb5, hhow⟩
        rcases hhow with ⟨x3, u, hx3, rfl, hgr⟩ | ⟨cc, hx3, rfl⟩
        · obtain ⟨uo, uc, rfl⟩ := hgr.shape
          obtain ⟨rows, hrows⟩ : ∃ rows, rows = less g m := ⟨_, rfl⟩
          have hlen : rows.length ≤ 24 := by
            rw [hrows]
            have := less_len g m m.length
            unfold less
            omega
          rw [← hrows] at hgr ⊢
          have hb50 := HI.out.on.trans (hb5.mono HI.out.on.size)
          have hb5w := HI.out.below.trans (hb5.mono HI.out.below.size)
          have HIX := Lib.hid (index_any g v HV.out.2.2.2.2 n eb B (B + 1) gk ga gb gao gn gc HSH.out wr.heap.size uo uc rows (by omega) w5 (HV.out.2.2.1.on hb5w) ((show Blk w eb _ _ from HV.out.2.2.2.1).below hb5w) (HV.out.1.on hb5w) (HK.out.2.1.below hb50) (HK.out.2.2.below hb50) hgr)
          have HGR := Lib.hid hgr
          have HB5 := Lib.hid (And.intro hb5w (And.intro hb50 hb5))
          have HRW := Lib.hid hrows
          clear hgr hb50 hb5w hb5 hrows hx3 c0 c1 c2 c3
          go_wp2_with fail
          refine HIX.out.mono ?_
          clear HIX
          rintro e w6 ⟨rfl, hb6⟩
          have HB6 := Lib.hid (And.intro (HB5.out.1.trans (hb6.mono HB5.out.1.size)) (And.intro (HB5.out.2.1.trans (hb6.mono HB5.out.2.1.size)) hb6))
          clear hb6
          rcases firstAt_find (bad g n) rows with ⟨hf, hat⟩ | ⟨i, hi, hf, hat⟩
          · rw [hat]
            have HST := Lib.hid (walk_stop HV.out.2.2.2.2 n HI.out.t1 HI.out.six (by rw [← HRW.out]; exact hf))
            have HAT := Lib.hid (HI.out.at_.below (Nat.le_refl _) (HB5.out.2.2.trans (HB6.out.2.2.mono HB5.out.2.2.size)))
            clear hf hat
            go_wp2_with fail
            go_ret3
            obtain ⟨hq1, hq2⟩ := wk_stop HI.out.eqn HST.out
            refine ⟨HB6.out.1, .inr (.inr ⟨x, mo, mc, HX.out.1, HX.out.2, ?_, ?_, ?_, ?_, ?_, HI.out.low⟩)⟩
            · rw [hq1, hq2]; rfl
            · rw [hq1]; exact HAT.out
            · rw [hq1]; exact HI.out.six
            · rw [hq1]; exact HI.out.t1
            · have h1 := HI.out.s0
              have h2 := HI.out.sb
              have h3 := HPB.out
              rw [hq2]
              unfold i64ok
              omega
          · rw [hat]
            have HST := Lib.hid (walk_next HV.out.2.2.2.2 n HI.out.t1 HI.out.six (by rw [← HRW.out]; exact hf))
            obtain ⟨vs, hv1, hv2⟩ := HGR.out
            obtain ⟨vi, hvi, hoi⟩ := hv2 i hi
            obtain ⟨io, ic, rfl⟩ := owns_shape hoi
            obtain ⟨m2, hm2⟩ : ∃ m2, rows.getD i [] = m2 := ⟨_, rfl⟩
            rw [hm2] at hvi hoi hf
            rw [hm2] at HST
            rcases id hv1.2 with ⟨_, h0⟩ | ⟨q, cap, cur, h1, hq1, hq2, _⟩
            · omega
            · simp only [Value.slice.injEq] at h1
              obtain ⟨rfl, _, rfl⟩ := h1
              have hcell := hv1.cellAt i (by omega)
              rw [hvi] at hcell
              have hci : w6.cell? ⟨q, i, none⟩ = some (.slice io m2.length ic) := (HB6.out.2.2.cell (p := ⟨q, i, none⟩) (Array.getElem?_eq_some_iff.1 hq2).1).trans hcell
              have HIA := Lib.hid ((IntsAt.of_owns hoi).below (Nat.le_refl _) HB6.out.2.2)
              have hmem : m2 ∈ less g m := by
                rw [← HRW.out, ← hm2]
                have hg : rows.getD i [] = rows[i] := by simp [hi]
                rw [hg]
                exact List.getElem_mem hi
              have hfall := HMU.out.falls m m2 HI.out.t1 hmem
              have hbad2 : bad g n m2 = true := by
                have := List.find?_some hf
                simpa using this
              have hsb := HI.out.sb
              have hs0 := HI.out.s0
              have hpb := HPB.out
              have hmm : mu m2 < mu m := hfall.2.2
              have hw1 : IntKind.i64.wrap (s + 1) = s + 1 := IntWalk.i64_in _ (by omega)
              have hw2 : wrap64 (s + 1) = s + 1 := by unfold wrap64; omega
              have HI2 := Lib.hid (show WI mu g n l m2 io (s + 1) w w0 w6 from ⟨HB6.out.1, HB6.out.2.1, HIA.out, hfall.1, hfall.2.1, hbad2, wk_next HI.out.eqn HST.out, by omega, by omega, fun q o hq => Nat.le_trans HI.out.below.size (hoi.lt q (by rw [hq]; rfl)).1⟩)
              have hi0 : (0 : Int) ≤ (i : Int) := by omega
              have hi1 : (i : Int) < (rows.length : Int) := by omega
              have HMM := Lib.hid hmm
              clear hf hat hv1 hv2 hvi hoi hq2 hcell hmem hfall hbad2 hsb hpb hmm hm2
              go_wp2_with fail
              go_roundg (mu m2)
              case rel => exact ⟨m2, io, ic, s + 1, rfl, rfl, rfl, HI2⟩
              case measure => exact HMM.out
        · rw [HX2.out] at hx3
          cases hx3
    · rw [decide_eq_false ht] at hbx ⊢
      have HX := Lib.hid (And.intro hx hbx)
      clear hx hbx
      go_wp2_with fail
      go_ret3
      exact ⟨HB3.out, .inr (.inl ⟨x, HX.out.1, HX.out.2, rfl⟩)⟩
  · have HX := Lib.hid hx
    have hne := neq_errno cc
    clear hx
    go_wp2_with fail
    go_ret3
    exact ⟨HB3.out, .inl ⟨cc, HX.out, rfl⟩⟩
end Go.Proofs.YtalbllijahiiiaaGreatDoor
end

section
namespace Go.Proofs.YtalbllijahiiiaaGreatDoor
open Go.RowKit Go.Mine Go.Mine.Desk

def findK (m : Nat → Int) : Nat → Nat → Int → Nat × Int
  | 0, k, i => (k, i)
  | f + 1, k, i => if i < m k then (k, i) else findK m f (k + 1) (i - m k)
def tot (m : Nat → Int) : Nat → Int
  | 0 => 0
  | n + 1 => tot m n + m n
def brN : G → Nat
  | .int a b => (b - a + 1).toNat
  | .many n _ _ => (n + 1).toNat
def brF : G → Nat → Nat
  | .int _ _, _ => 0
  | .many _ _ _, k => k
def wide : G → Int
  | .int a b => b - a + 1
  | .many _ a b => b - a + 1
def mW (g : G) (j k : Nat) : Int := wide g ^ j * wide g ^ brF g k
def digsN (c : Int) : Nat → Int → List Int
  | 0, _ => []
  | j + 1, i => i / c ^ j :: digsN c j (i % c ^ j)
def nthS (g : G) (j : Nat) (i : Int) : List Int :=
  ((findK (mW g j) (brN g) 0 i).1 : Int) :: digsN (wide g) (brF g (findK (mW g j) (brN g) 0 i).1 + j) (findK (mW g j) (brN g) 0 i).2
def nth (g : G) (i : Int) : List Int := nthS g 0 i

theorem brN_int (a b : Int) : brN (.int a b) = (b - a + 1).toNat := rfl
theorem brN_many (n a b : Int) : brN (.many n a b) = (n + 1).toNat := rfl
theorem findK_skip {m : Nat → Int} {n k : Nat} {i : Int} (hk : k < n) (h : ¬ i < m k) : findK m (n - k) k i = findK m (n - (k + 1)) (k + 1) (i - m k) := by
  obtain ⟨f, hf⟩ : ∃ f, n - k = f + 1 := ⟨n - k - 1, by omega⟩
  rw [hf, findK, if_neg h, show n - (k + 1) = f by omega]
theorem findK_hit {m : Nat → Int} {n k : Nat} {i : Int} (hk : k < n) (h : i < m k) : findK m (n - k) k i = (k, i) := by
  obtain ⟨f, hf⟩ : ∃ f, n - k = f + 1 := ⟨n - k - 1, by omega⟩
  rw [hf, findK, if_pos h]
theorem tot_const (p : Int) : ∀ n, tot (fun _ => p) n = n * p
  | 0 => by simp [tot]
  | n + 1 => by
    rw [tot, tot_const p n, Int.natCast_add, Int.add_mul]
    simp
theorem tot_nn {m : Nat → Int} (h : ∀ k, 0 ≤ m k) : ∀ n, 0 ≤ tot m n
  | 0 => Int.le_refl _
  | n + 1 => by
    have := tot_nn h n
    have := h n
    rw [tot]
    omega
theorem mW_int (a b : Int) (j : Nat) : mW (.int a b) j = fun _ => (b - a + 1) ^ j := by
  funext k
  simp [mW, wide, brF]
theorem mW_many (n a b : Int) : mW (.many n a b) 0 = fun k => (b - a + 1) ^ k := by
  funext k
  simp [mW, wide, brF]
theorem findK_const {p : Int} (hp : 0 < p) : ∀ (f k : Nat) (i : Int), 0 ≤ i → i < f * p → findK (fun _ => p) f k i = (k + (i / p).toNat, i % p)
  | 0, k, i, h0, h1 => by simp at h1; omega
  | f + 1, k, i, h0, h1 => by
    rw [findK]
    split
    · rename_i h
      rw [Int.ediv_eq_zero_of_lt h0 h, Int.emod_eq_of_lt h0 h]
      simp
    · rename_i h
      have h2 : i - p < f * p := by
        rw [Int.natCast_add, Int.add_mul] at h1
        simp at h1
        omega
      rw [findK_const hp f (k + 1) (i - p) (by omega) h2]
      have h3 : i / p = (i - p) / p + 1 := by
        have : i = (i - p) + p * 1 := by omega
        rw [this, Int.add_mul_ediv_left _ _ (by omega)]
        simp
      have h4 : (i - p) % p = i % p := by
        have := Int.sub_emod_right i p
        exact this
      have h5 : 0 ≤ (i - p) / p := Int.ediv_nonneg (by omega) (by omega)
      rw [h4, h3]
      refine Prod.ext ?_ rfl
      show k + 1 + ((i - p) / p).toNat = k + ((i - p) / p + 1).toNat
      omega
theorem nthS_int {a b : Int} (hab : a ≤ b) (j : Nat) (i : Int) (h0 : 0 ≤ i) (h1 : i < (b - a + 1) ^ (j + 1)) : nthS (.int a b) j i = digsN (b - a + 1) (j + 1) i := by
  obtain ⟨c, hc⟩ : ∃ c, c = b - a + 1 := ⟨_, rfl⟩
  have hc0 : 0 < c := by omega
  have hp : 0 < c ^ j := Int.pow_pos hc0
  have hn : ((brN (.int a b) : Nat) : Int) = c := by rw [brN_int]; omega
  have hk := findK_const hp (brN (.int a b)) 0 i h0 (by rw [hn, Int.mul_comm, ← Int.pow_succ, hc]; exact h1)
  unfold nthS
  rw [mW_int, ← hc, hk]
  show ((0 + (i / c ^ j).toNat : Nat) : Int) :: digsN (wide (.int a b)) (0 + j) (i % c ^ j) = digsN c (j + 1) i
  have hd : 0 ≤ i / c ^ j := Int.ediv_nonneg h0 (by omega)
  rw [digsN, Nat.zero_add, show wide (.int a b) = c from hc.symm, show (((i / c ^ j).toNat : Nat) : Int) = i / c ^ j by omega, Nat.zero_add]
theorem tot_int {a b : Int} (hab : a ≤ b) (j : Nat) : tot (mW (.int a b) j) (brN (.int a b)) = (b - a + 1) ^ (j + 1) := by
  rw [mW_int, tot_const, Int.pow_succ, Int.mul_comm]
  have : ((brN (.int a b) : Nat) : Int) = b - a + 1 := by rw [brN_int]; omega
  rw [this]
theorem cntN_tot {c : Int} (h0 : 0 ≤ c) : ∀ k, (cntN c k).1 ≤ 1048576 → (cntN c k).1 = tot (fun q => c ^ q) (k + 1) ∧ (cntN c k).2 = c ^ k
  | 0, _ => by simp [cntN, tot]
  | k + 1, h => by
    obtain ⟨b1, _, b3, _⟩ := cntN_b h0 k
    have hm : 0 ≤ (cntN c k).2 * c := Int.mul_nonneg b3 h0
    have e1 : (cntN c (k + 1)).1 = capped ((cntN c k).1 + capped ((cntN c k).2 * c)) := rfl
    have e2 : (cntN c (k + 1)).2 = capped ((cntN c k).2 * c) := rfl
    have hc := capped_nn hm
    rw [e1] at h
    have h1 : (cntN c k).1 + capped ((cntN c k).2 * c) ≤ 1048576 := by unfold capped at h ⊢; omega
    obtain ⟨i1, i2⟩ := cntN_tot h0 k (by omega)
    have h2 : capped ((cntN c k).2 * c) = (cntN c k).2 * c := by unfold capped at h1 ⊢; omega
    rw [e1, e2]
    rw [h2] at h1 ⊢
    rw [show capped ((cntN c k).1 + (cntN c k).2 * c) = (cntN c k).1 + (cntN c k).2 * c by unfold capped; omega, i1, i2, tot, ← Int.pow_succ]
    exact ⟨rfl, rfl⟩
theorem tot_cnt {g : G} (h : g.right) (hc : cnt g ≤ 1048576) : tot (mW g 0) (brN g) = cnt g := by
  cases g with
  | int a b =>
    obtain ⟨_, _, h1, _⟩ := h
    rw [tot_int h1, cnt_int, Int.pow_succ]
    simp
  | many n a b =>
    obtain ⟨h0, h5, _, _, h1, _⟩ := h
    rw [cnt_many] at hc
    have := (cntN_tot (c := b - a + 1) (by omega) n.toNat hc).1
    rw [mW_many, cnt_many, this]
    have : brN (.many n a b) = n.toNat + 1 := by rw [brN_many]; omega
    rw [this]
structure FK (m : Nat → Int) (n k : Nat) (i i0 : Int) : Prop where
  nn : 0 ≤ i
  same : findK m (n - k) k i = findK m n 0 i0
  sum : tot m k + i = i0
  le : i ≤ i0
theorem FK.start {m : Nat → Int} {n : Nat} {i : Int} (h : 0 ≤ i) : FK m n 0 i i := ⟨h, by simp, by simp [tot], Int.le_refl _⟩
theorem FK.next {m : Nat → Int} {n k : Nat} {i i0 : Int} (h : FK m n k i i0) (hk : k < n) (hn : ¬ i < m k) (h0 : 0 ≤ m k) : FK m n (k + 1) (i - m k) i0 :=
  ⟨by omega, by rw [← findK_skip hk hn]; exact h.same, by have := h.sum; rw [tot]; omega, by have := h.le; omega⟩
theorem FK.hit {m : Nat → Int} {n k : Nat} {i i0 : Int} (h : FK m n k i i0) (hk : k < n) (hn : i < m k) : findK m n 0 i0 = (k, i) := by rw [← h.same]; exact findK_hit hk hn
theorem FK.more {m : Nat → Int} {n k : Nat} {i i0 : Int} (h : FK m n k i i0) (ht : i0 < tot m n) (hk : k ≤ n) : k < n := by
  rcases Nat.lt_or_ge k n with h1 | h1
  · exact h1
  · obtain rfl : k = n := by omega
    have := h.nn
    have := h.sum
    omega
end Go.Proofs.YtalbllijahiiiaaGreatDoor
end
