/- The forms run, less. Printed by genless.py. -/
import Derived.Test.YtalbllijahiiiaaGreatDoorDkAS
namespace Go.Proofs.YtalbllijahiiiaaGreatDoor
open Go.RowKit Go.Mine Go.Mine.Desk

set_option maxRecDepth 100000 in
set_option maxHeartbeats 4000000 in
theorem form8_any (db : Nat) (g : G) (n : Int) (wo : Option Addr) (wc : Nat) (x0 x1 : Bytes) (hx0 : x0.length ≤ 1100000) (hx1 : x1.length ≤ 1100000) (w : World) (hg : Gl w) (hd : DeskAt w db g n) (hw : StrsAt w wo [x0, x1]) :
    Calls Tryz.prog 64 #[.pointer (some ⟨db, 0, none⟩), .slice wo 2 wc] w (FormPost (g, n) (runF2 (g, n) x0 x1) db w) := by
  obtain ⟨d, hd⟩ := hd
  obtain ⟨b, o, rfl, hc⟩ := hw 0 (by simp)
  have hc0 : w.cell? ⟨b, o, none⟩ = some (str x0) := hc
  have hc1 : w.cell? ⟨b, o + 1, none⟩ = some (str x1) := by
    obtain ⟨b', o', h1, h2⟩ := hw 1 (by simp)
    cases h1
    exact h2
  have hbl : b < w.heap.size := World.block_lt_of_cell? w _ hc0
  have HS := Lib.hid (fun (w' : World) (hb : Below w.heap.size w w') => (show (fun w' => w'.cell? ⟨b, o, none⟩ = some (str x0) ∧ w'.cell? ⟨b, o + 1, none⟩ = some (str x1)) w' from ⟨(hb.cell (by exact hbl)).trans hc0, (hb.cell (by exact hbl)).trans hc1⟩))
  have HD := Lib.hid (And.intro hd hg)
  have HB0 := Lib.hid (show Below w.heap.size w w.drew from (Below.refl _ _).drew)
  have HN0 := Lib.hid (fun (wx : World) (hbx : Below w.heap.size w wx) => number_any x0 (by omega) wx (hg.on hbx))
  have HN1 := Lib.hid (fun (wx : World) (hbx : Below w.heap.size w wx) => number_any x1 (by omega) wx (hg.on hbx))
  clear hd hg hw hc
  cases hv : wordV x0 with
  | none =>
    have HV0 := Lib.hid hv
    clear hv
    go_enter Tryz.func64, Tryz.ntmps64
    go_wp2_with fail
    refine wp_region_held_drew (S := fun w' => w'.cell? ⟨b, o, none⟩ = some (str x0) ∧ w'.cell? ⟨b, o + 1, none⟩ = some (str x1)) (by kernel_rfl) ?hS0a (fun hHeld => ?_)
    case hS0a => exact HS.out _ HB0.out
    refine wpAnyH_take (i := 0) (v := ?vva0) rfl (by kernel_rfl) (by kernel_rfl) (by kernel_rfl) (fun _ _ _ h => h) (Or.inl ⟨by rfl, ?hya0⟩) (by assumption) ?resta0
    case hya0 => ((intro w hSw; (try dsimp only at hSw); go_simp) <;> with_reducible rfl)
    try simp only [sA, sC, Act.put, sD, sE, sF]
    refine wpAnyH_take (i := 1) (v := ?vva1) rfl (by kernel_rfl) (by kernel_rfl) (by kernel_rfl) (fun _ _ _ h => h) (Or.inl ⟨by rfl, ?hya1⟩) (by assumption) ?resta1
    case hya1 => ((intro w hSw; (try dsimp only at hSw); go_simp) <;> with_reducible rfl)
    try simp only [sA, sB, sC, Act.put, sD, sE, sF]
    refine wpAnyH_take (i := 2) (v := ?vva2) rfl (by kernel_rfl) (by kernel_rfl) (by kernel_rfl) (fun _ _ _ h => h) (Or.inl ⟨by rfl, ?hya2⟩) (by assumption) ?resta2
    case hya2 => ((intro w hSw; (try dsimp only at hSw); go_simp) <;> with_reducible rfl)
    try simp only [sA, sB, sC, Act.put, sD, sE, sF]
    refine wpAnyH_take (i := 4) (v := ?vva4) rfl (by kernel_rfl) (by kernel_rfl) (by kernel_rfl) (fun _ _ _ h => h) (Or.inl ⟨by rfl, ?hya4⟩) (by assumption) ?resta4
    case hya4 => ((intro w hSw; (try dsimp only at hSw); go_simp) <;> with_reducible rfl)
    try simp only [sA, sB, sC, Act.put, sD, sE, sF]
    refine wpAnyH_take (i := 5) (v := ?vva5) rfl (by kernel_rfl) (by kernel_rfl) (by kernel_rfl) (fun _ _ _ h => h) (Or.inl ⟨by rfl, ?hya5⟩) (by assumption) ?resta5
    case hya5 => ((intro w hSw; (try dsimp only at hSw); go_simp) <;> with_reducible rfl)
    try simp only [sA, sB, sC, Act.put, sD, sE, sF]
    refine wpAnyH_take (i := 6) (v := ?vva6) rfl (by kernel_rfl) (by kernel_rfl) (by kernel_rfl) (fun _ _ _ h => h) (Or.inl ⟨by rfl, ?hya6⟩) (by assumption) ?resta6
    case hya6 => ((intro w hSw; (try dsimp only at hSw); go_simp) <;> with_reducible rfl)
    try simp only [sA, sB, sC, Act.put, sD, sE, sF]
    refine wpAnyH_ready (rs := [3]) (by kernel_rfl) (by simp) ?_
    refine AllReadyH.cons rfl (fun K hK => ?_) AllReadyH.nil
    go_simp
    go_at_call 43
    refine (HN0.out _ HB0.out).mono ?_
    rintro e w1 ⟨he, hb1⟩
    have hp := he.err (numX_none HV0.out)
    subst hp
    have hb := HB0.out.trans (hb1.mono HB0.out.size)
    go_simp
    exact body_panics (HD.out.1.idle hb (by simp [runF2, HV0.out]))
  | some xa =>
    have HV0 := Lib.hid (wordV_near hv)
    have HV0n := HV0
    have HV0 := Lib.hid hv
    clear hv
    cases hv : wordV x1 with
    | none =>
      have HV1 := Lib.hid hv
      clear hv
      go_enter Tryz.func64, Tryz.ntmps64
      go_wp2_with fail
      refine wp_region_held_drew (S := fun w' => w'.cell? ⟨b, o, none⟩ = some (str x0) ∧ w'.cell? ⟨b, o + 1, none⟩ = some (str x1)) (by kernel_rfl) ?hS0b (fun hHeld => ?_)
      case hS0b => exact HS.out _ HB0.out
      refine wpAnyH_take (i := 0) (v := ?vvb0) rfl (by kernel_rfl) (by kernel_rfl) (by kernel_rfl) (fun _ _ _ h => h) (Or.inl ⟨by rfl, ?hyb0⟩) (by assumption) ?restb0
      case hyb0 => ((intro w hSw; (try dsimp only at hSw); go_simp) <;> with_reducible rfl)
      try simp only [sA, sC, Act.put, sD, sE, sF]
      refine wpAnyH_take (i := 1) (v := ?vvb1) rfl (by kernel_rfl) (by kernel_rfl) (by kernel_rfl) (fun _ _ _ h => h) (Or.inl ⟨by rfl, ?hyb1⟩) (by assumption) ?restb1
      case hyb1 => ((intro w hSw; (try dsimp only at hSw); go_simp) <;> with_reducible rfl)
      try simp only [sA, sB, sC, Act.put, sD, sE, sF]
      refine wpAnyH_take (i := 2) (v := ?vvb2) rfl (by kernel_rfl) (by kernel_rfl) (by kernel_rfl) (fun _ _ _ h => h) (Or.inl ⟨by rfl, ?hyb2⟩) (by assumption) ?restb2
      case hyb2 => ((intro w hSw; (try dsimp only at hSw); go_simp) <;> with_reducible rfl)
      try simp only [sA, sB, sC, Act.put, sD, sE, sF]
      refine wpAnyH_take (i := 4) (v := ?vvb4) rfl (by kernel_rfl) (by kernel_rfl) (by kernel_rfl) (fun _ _ _ h => h) (Or.inl ⟨by rfl, ?hyb4⟩) (by assumption) ?restb4
      case hyb4 => ((intro w hSw; (try dsimp only at hSw); go_simp) <;> with_reducible rfl)
      try simp only [sA, sB, sC, Act.put, sD, sE, sF]
      refine wpAnyH_take (i := 5) (v := ?vvb5) rfl (by kernel_rfl) (by kernel_rfl) (by kernel_rfl) (fun _ _ _ h => h) (Or.inl ⟨by rfl, ?hyb5⟩) (by assumption) ?restb5
      case hyb5 => ((intro w hSw; (try dsimp only at hSw); go_simp) <;> with_reducible rfl)
      try simp only [sA, sB, sC, Act.put, sD, sE, sF]
      refine wpAnyH_take (i := 6) (v := ?vvb6) rfl (by kernel_rfl) (by kernel_rfl) (by kernel_rfl) (fun _ _ _ h => h) (Or.inl ⟨by rfl, ?hyb6⟩) (by assumption) ?restb6
      case hyb6 => ((intro w hSw; (try dsimp only at hSw); go_simp) <;> with_reducible rfl)
      try simp only [sA, sB, sC, Act.put, sD, sE, sF]
      refine wpAnyH_ready (rs := [3]) (by kernel_rfl) (by simp) ?_
      refine AllReadyH.cons rfl (fun K hK => ?_) AllReadyH.nil
      go_simp
      go_at_call 43
      refine (HN0.out _ HB0.out).mono ?_
      rintro e w1 ⟨he, hb1⟩
      have hp := he.ok (numX_some HV0.out)
      subst hp
      have HB1 := Lib.hid (HB0.out.trans (hb1.mono HB0.out.size))
      clear he hb1
      refine hK.out _ _ ?hSb3 (fun hHeld => ?_)
      case hSb3 => exact HS.out _ HB1.out
      clear hK K
      try simp only [sA, sB, sC, Act.put, sD, sE, sF]
      refine wpAnyH_ready (rs := [7]) (by kernel_rfl) (by simp) ?_
      refine AllReadyH.cons rfl (fun K hK => ?_) AllReadyH.nil
      go_simp
      go_at_call 43
      refine (HN1.out _ HB1.out).mono ?_
      rintro e w2 ⟨he, hb1⟩
      have hp := he.err (numX_none HV1.out)
      subst hp
      have hb := HB1.out.trans (hb1.mono HB1.out.size)
      go_simp
      exact body_panics (HD.out.1.idle hb (by simp [runF2, HV0.out, HV1.out]))
    | some xb =>
      have HV1 := Lib.hid (wordV_near hv)
      have HV1n := HV1
      have HV1 := Lib.hid hv
      clear hv
      rw [show runF2 (g, n) x0 x1 = runText (g, n) xa xb by simp [runF2, HV0.out, HV1.out]]
      go_enter Tryz.func64, Tryz.ntmps64
      go_wp2_with fail
      refine wp_region_held_drew (S := fun w' => w'.cell? ⟨b, o, none⟩ = some (str x0) ∧ w'.cell? ⟨b, o + 1, none⟩ = some (str x1)) (by kernel_rfl) ?hS0c (fun hHeld => ?_)
      case hS0c => exact HS.out _ HB0.out
      refine wpAnyH_take (i := 0) (v := ?vvc0) rfl (by kernel_rfl) (by kernel_rfl) (by kernel_rfl) (fun _ _ _ h => h) (Or.inl ⟨by rfl, ?hyc0⟩) (by assumption) ?restc0
      case hyc0 => ((intro w hSw; (try dsimp only at hSw); go_simp) <;> with_reducible rfl)
      try simp only [sA, sC, Act.put, sD, sE, sF]
      refine wpAnyH_take (i := 1) (v := ?vvc1) rfl (by kernel_rfl) (by kernel_rfl) (by kernel_rfl) (fun _ _ _ h => h) (Or.inl ⟨by rfl, ?hyc1⟩) (by assumption) ?restc1
      case hyc1 => ((intro w hSw; (try dsimp only at hSw); go_simp) <;> with_reducible rfl)
      try simp only [sA, sB, sC, Act.put, sD, sE, sF]
      refine wpAnyH_take (i := 2) (v := ?vvc2) rfl (by kernel_rfl) (by kernel_rfl) (by kernel_rfl) (fun _ _ _ h => h) (Or.inl ⟨by rfl, ?hyc2⟩) (by assumption) ?restc2
      case hyc2 => ((intro w hSw; (try dsimp only at hSw); go_simp) <;> with_reducible rfl)
      try simp only [sA, sB, sC, Act.put, sD, sE, sF]
      refine wpAnyH_take (i := 4) (v := ?vvc4) rfl (by kernel_rfl) (by kernel_rfl) (by kernel_rfl) (fun _ _ _ h => h) (Or.inl ⟨by rfl, ?hyc4⟩) (by assumption) ?restc4
      case hyc4 => ((intro w hSw; (try dsimp only at hSw); go_simp) <;> with_reducible rfl)
      try simp only [sA, sB, sC, Act.put, sD, sE, sF]
      refine wpAnyH_take (i := 5) (v := ?vvc5) rfl (by kernel_rfl) (by kernel_rfl) (by kernel_rfl) (fun _ _ _ h => h) (Or.inl ⟨by rfl, ?hyc5⟩) (by assumption) ?restc5
      case hyc5 => ((intro w hSw; (try dsimp only at hSw); go_simp) <;> with_reducible rfl)
      try simp only [sA, sB, sC, Act.put, sD, sE, sF]
      refine wpAnyH_take (i := 6) (v := ?vvc6) rfl (by kernel_rfl) (by kernel_rfl) (by kernel_rfl) (fun _ _ _ h => h) (Or.inl ⟨by rfl, ?hyc6⟩) (by assumption) ?restc6
      case hyc6 => ((intro w hSw; (try dsimp only at hSw); go_simp) <;> with_reducible rfl)
      try simp only [sA, sB, sC, Act.put, sD, sE, sF]
      refine wpAnyH_ready (rs := [3]) (by kernel_rfl) (by simp) ?_
      refine AllReadyH.cons rfl (fun K hK => ?_) AllReadyH.nil
      go_simp
      go_at_call 43
      refine (HN0.out _ HB0.out).mono ?_
      rintro e w1 ⟨he, hb1⟩
      have hp := he.ok (numX_some HV0.out)
      subst hp
      have HB1 := Lib.hid (HB0.out.trans (hb1.mono HB0.out.size))
      clear he hb1
      refine hK.out _ _ ?hSc3 (fun hHeld => ?_)
      case hSc3 => exact HS.out _ HB1.out
      clear hK K
      try simp only [sA, sB, sC, Act.put, sD, sE, sF]
      refine wpAnyH_ready (rs := [7]) (by kernel_rfl) (by simp) ?_
      refine AllReadyH.cons rfl (fun K hK => ?_) AllReadyH.nil
      go_simp
      go_at_call 43
      refine (HN1.out _ HB1.out).mono ?_
      rintro e w2 ⟨he, hb1⟩
      have hp := he.ok (numX_some HV1.out)
      subst hp
      have HB2 := Lib.hid (HB1.out.trans (hb1.mono HB1.out.size))
      clear he hb1
      refine hK.out _ _ ?hSc7 (fun hHeld => ?_)
      case hSc7 => exact HS.out _ HB2.out
      clear hK K
      try simp only [sA, sB, sC, Act.put, sD, sE, sF]
      refine wpAnyH_take (i := 8) (v := ?vvc8) rfl (by kernel_rfl) (by kernel_rfl) (by kernel_rfl) (fun _ _ _ h => h) (Or.inl ⟨by rfl, ?hyc8⟩) (by assumption) ?restc8
      case hyc8 => ((intro w hSw; (try dsimp only at hSw); go_simp) <;> with_reducible rfl)
      try simp only [sA, sB, sC, Act.put, sD, sE, sF]
      refine wpAnyH_take (i := 9) (v := ?vvc9) rfl (by kernel_rfl) (by kernel_rfl) (by kernel_rfl) (fun _ _ _ h => h) (Or.inl ⟨by rfl, ?hyc9⟩) (by assumption) ?restc9
      case hyc9 => ((intro w hSw; (try dsimp only at hSw); go_simp) <;> with_reducible rfl)
      try simp only [sA, sB, sC, Act.put, sD, sE, sF]
      refine wpAnyH_done (by kernel_rfl) ?_ _
      have HST := Lib.hid (drun_any db g n xa xb HV1n.out w2 (HD.out.2.on HB2.out) (HD.out.1.on HB2.out).at)
      go_wp2_with fail
      refine HST.out.mono ?_
      clear HST
      rintro e w3 ⟨ht, hhow⟩
      have HT := Lib.hid ht
      clear ht
      rcases hhow with ⟨out, st', hr, rfl, hd'⟩ | ⟨c, hr, rfl, hd'⟩
      · have HR := Lib.hid (And.intro hr hd')
        clear hr hd'
        go_wp2_with fail
        go_ret
        exact FormPost.after HB2.out ⟨HT.out, .inl ⟨out, st', HR.out.1, rfl, HR.out.2⟩⟩
      · have HR := Lib.hid (And.intro hr hd')
        clear hr hd'
        go_simp
        exact body_panics (FormPost.after HB2.out ⟨HT.out, .inr ⟨c, HR.out.1, rfl, HR.out.2⟩⟩)
theorem tapeV_ok {s : Bytes} {l : List Int} (h : tapeV s = some l) : tape1 l := by
  unfold tapeV at h
  cases hq : (if s = [] then some [] else atoiEach (cuts 46 s)) with
  | none => rw [hq] at h; cases h
  | some ys =>
    rw [hq] at h
    simp only at h
    split at h
    · rename_i hk
      cases h
      intro x hx
      have h1 := hk.1
      unfold tapeOk at h1
      rw [List.all_eq_true] at h1
      have := h1 x hx
      simp only [Bool.and_eq_true, decide_eq_true_eq] at this
      exact this
    · cases h
theorem less_rows {g : G} (hr : g.right) (l : List Int) : ∀ m ∈ less g l, m.length ≤ 6 ∧ tape1 m := fun m hm => by
  obtain ⟨t, rfl, _⟩ := less_mem hm
  exact ⟨mend_len g hr t, mend_tape1 hr t⟩
theorem ttext_len {l : List Int} (h6 : l.length ≤ 6) (h1 : tape1 l) : (ttext l).length ≤ 200 := by
  have hti : ∀ x ∈ l, i64ok x := fun x hx => by have := h1 x hx; unfold i64ok; omega
  have h2 := join_len (c := 46) (m := 21) (l.map Go.Lib.itoa) (text_len hti)
  rw [List.length_map] at h2
  unfold ttext
  have h3 : (21 + 1) * l.length ≤ 22 * 6 := Nat.mul_le_mul (Nat.le_refl _) h6
  omega
set_option maxRecDepth 100000 in
set_option maxHeartbeats 8000000 in
theorem form7_any (db : Nat) (g : G) (n : Int) (wo : Option Addr) (wc : Nat) (x0 : Bytes) (hx0 : x0.length ≤ 1100000) (w : World) (hg : Gl w) (hd : DeskAt w db g n) (hw : StrsAt w wo [x0]) :
    Calls Tryz.prog 60 #[.pointer (some ⟨db, 0, none⟩), .slice wo 1 wc] w (FormPost (g, n) (lessF (g, n) x0) db w) := by
  obtain ⟨d, hd⟩ := hd
  obtain ⟨b, o, rfl, hc⟩ := hw 0 (by simp)
  have hc0 : w.cell? ⟨b, o, none⟩ = some (str x0) := hc
  have hbl : b < w.heap.size := World.block_lt_of_cell? w _ hc0
  have e0 : w.cell? ⟨db, 0, none⟩ = some (.int .i64 d.gk) := hd.blk.cell 0
  have e1 : w.cell? ⟨db, 1, none⟩ = some (.int .i64 d.ga) := hd.blk.cell 1
  have e2 : w.cell? ⟨db, 2, none⟩ = some (.int .i64 d.gb) := hd.blk.cell 2
  have e3 : w.cell? ⟨db, 3, none⟩ = some (.slice d.gao d.gn d.gc) := hd.blk.cell 3
  have hdl : db < w.heap.size := hd.blk.lt
  have HS := Lib.hid (fun (w' : World) (hb : Below w.heap.size w w') => (show (fun w' => w'.cell? ⟨db, 0, none⟩ = some (.int .i64 d.gk) ∧ w'.cell? ⟨db, 1, none⟩ = some (.int .i64 d.ga) ∧ w'.cell? ⟨db, 2, none⟩ = some (.int .i64 d.gb) ∧ w'.cell? ⟨db, 3, none⟩ = some (.slice d.gao d.gn d.gc) ∧ w'.cell? ⟨b, o, none⟩ = some (str x0)) w' from ⟨(hb.cell (by exact hdl)).trans e0, (hb.cell (by exact hdl)).trans e1, (hb.cell (by exact hdl)).trans e2, (hb.cell (by exact hdl)).trans e3, (hb.cell (by exact hbl)).trans hc0⟩))
  have HD := Lib.hid (And.intro hd hg)
  have HB0 := Lib.hid (show Below w.heap.size w w.drew from (Below.refl _ _).drew)
  obtain ⟨i0, hi0, hz0, hz1, hz2⟩ := info_parts infoStr
  have HN := Lib.hid (fun (wx : World) (hbx : Below w.heap.size w wx) => choices_any x0 hx0 wx (hg.on hbx))
  clear hd hg hw hc
  cases hv : tapeV x0 with
  | none =>
    have HV := Lib.hid hv
    clear hv
    go_enter Tryz.func60, Tryz.ntmps60
    go_wp2_with fail
    refine wp_region_held_drew (S := fun w' => w'.cell? ⟨db, 0, none⟩ = some (.int .i64 d.gk) ∧ w'.cell? ⟨db, 1, none⟩ = some (.int .i64 d.ga) ∧ w'.cell? ⟨db, 2, none⟩ = some (.int .i64 d.gb) ∧ w'.cell? ⟨db, 3, none⟩ = some (.slice d.gao d.gn d.gc) ∧ w'.cell? ⟨b, o, none⟩ = some (str x0)) (by kernel_rfl) ?hS0d (fun hHeld => ?_)
    case hS0d => exact HS.out _ HB0.out
    refine wpAnyH_take (i := 0) (v := ?vvd0) rfl (by kernel_rfl) (by kernel_rfl) (by kernel_rfl) (fun _ _ _ h => h) (Or.inl ⟨by rfl, ?hyd0⟩) (by assumption) ?restd0
    case hyd0 => ((intro w hSw; (try dsimp only at hSw); go_simp) <;> with_reducible rfl)
    try simp only [sA, sC, Act.put, sD, sE, sF]
    refine wpAnyH_take (i := 1) (v := ?vvd1) rfl (by kernel_rfl) (by kernel_rfl) (by kernel_rfl) (fun _ _ _ h => h) (Or.inl ⟨by rfl, ?hyd1⟩) (by assumption) ?restd1
    case hyd1 => ((intro w hSw; (try dsimp only at hSw); go_simp) <;> with_reducible rfl)
    try simp only [sA, sB, sC, Act.put, sD, sE, sF]
    refine wpAnyH_take (i := 2) (v := ?vvd2) rfl (by kernel_rfl) (by kernel_rfl) (by kernel_rfl) (fun _ _ _ h => h) (Or.inl ⟨by rfl, ?hyd2⟩) (by assumption) ?restd2
    case hyd2 => ((intro w hSw; (try dsimp only at hSw); go_simp) <;> with_reducible rfl)
    try simp only [sA, sB, sC, Act.put, sD, sE, sF]
    refine wpAnyH_take (i := 3) (v := ?vvd3) rfl (by kernel_rfl) (by kernel_rfl) (by kernel_rfl) (fun _ _ _ h => h) (Or.inl ⟨by rfl, ?hyd3⟩) (by assumption) ?restd3
    case hyd3 => ((intro w hSw; (try dsimp only at hSw); go_simp) <;> with_reducible rfl)
    try simp only [sA, sB, sC, Act.put, sD, sE, sF]
    refine wpAnyH_take (i := 4) (v := ?vvd4) rfl (by kernel_rfl) (by kernel_rfl) (by kernel_rfl) (fun _ _ _ h => h) (Or.inl ⟨by rfl, ?hyd4⟩) (by assumption) ?restd4
    case hyd4 => ((intro w hSw; (try dsimp only at hSw); go_simp) <;> with_reducible rfl)
    try simp only [sA, sB, sC, Act.put, sD, sE, sF]
    refine wpAnyH_take (i := 5) (v := ?vvd5) rfl (by kernel_rfl) (by kernel_rfl) (by kernel_rfl) (fun _ _ _ h => h) (Or.inl ⟨by rfl, ?hyd5⟩) (by assumption) ?restd5
    case hyd5 => ((intro w hSw; (try dsimp only at hSw); go_simp) <;> with_reducible rfl)
    try simp only [sA, sB, sC, Act.put, sD, sE, sF]
    refine wpAnyH_take (i := 6) (v := ?vvd6) rfl (by kernel_rfl) (by kernel_rfl) (by kernel_rfl) (fun _ _ _ h => h) (Or.inl ⟨by rfl, ?hyd6⟩) (by assumption) ?restd6
    case hyd6 => ((intro w hSw; (try dsimp only at hSw); go_simp) <;> with_reducible rfl)
    try simp only [sA, sB, sC, Act.put, sD, sE, sF]
    refine wpAnyH_take (i := 13) (v := ?vvd13) rfl (by kernel_rfl) (by kernel_rfl) (by kernel_rfl) (fun _ _ _ h => h) (Or.inl ⟨by rfl, ?hyd13⟩) (by assumption) ?restd13
    case hyd13 => ((intro w hSw; (try dsimp only at hSw); go_simp) <;> with_reducible rfl)
    try simp only [sA, sB, sC, Act.put, sD, sE, sF]
    refine wpAnyH_ready (rs := [7]) (by kernel_rfl) (by simp) ?_
    refine AllReadyH.cons rfl (fun K hK => ?_) AllReadyH.nil
    go_simp
    go_at_call 59
    refine (HN.out _ HB0.out).mono ?_
    rintro e w1 ⟨hb1, hhow⟩
    have hp : e = panics 7 := by
      rcases hhow with ⟨l, uo, uc, h1, _⟩ | ⟨_, h2⟩
      · rw [HV.out] at h1
        cases h1
      · exact h2
    subst hp
    have hb := HB0.out.trans (hb1.mono HB0.out.size)
    go_simp
    exact body_panics (HD.out.1.idle hb (by unfold lessF; rw [HV.out]))
  | some l =>
    have HV := Lib.hid hv
    have HTO := Lib.hid (tapeV_ok hv)
    clear hv
    cases hn : replay g l with
    | error c =>
      have HQ := Lib.hid hn
      clear hn
      go_enter Tryz.func60, Tryz.ntmps60
      go_wp2_with fail
      refine wp_region_held_drew (S := fun w' => w'.cell? ⟨db, 0, none⟩ = some (.int .i64 d.gk) ∧ w'.cell? ⟨db, 1, none⟩ = some (.int .i64 d.ga) ∧ w'.cell? ⟨db, 2, none⟩ = some (.int .i64 d.gb) ∧ w'.cell? ⟨db, 3, none⟩ = some (.slice d.gao d.gn d.gc) ∧ w'.cell? ⟨b, o, none⟩ = some (str x0)) (by kernel_rfl) ?hS0e (fun hHeld => ?_)
      case hS0e => exact HS.out _ HB0.out
      refine wpAnyH_take (i := 0) (v := ?vve0) rfl (by kernel_rfl) (by kernel_rfl) (by kernel_rfl) (fun _ _ _ h => h) (Or.inl ⟨by rfl, ?hye0⟩) (by assumption) ?reste0
      case hye0 => ((intro w hSw; (try dsimp only at hSw); go_simp) <;> with_reducible rfl)
      try simp only [sA, sC, Act.put, sD, sE, sF]
      refine wpAnyH_take (i := 1) (v := ?vve1) rfl (by kernel_rfl) (by kernel_rfl) (by kernel_rfl) (fun _ _ _ h => h) (Or.inl ⟨by rfl, ?hye1⟩) (by assumption) ?reste1
      case hye1 => ((intro w hSw; (try dsimp only at hSw); go_simp) <;> with_reducible rfl)
      try simp only [sA, sB, sC, Act.put, sD, sE, sF]
      refine wpAnyH_take (i := 2) (v := ?vve2) rfl (by kernel_rfl) (by kernel_rfl) (by kernel_rfl) (fun _ _ _ h => h) (Or.inl ⟨by rfl, ?hye2⟩) (by assumption) ?reste2
      case hye2 => ((intro w hSw; (try dsimp only at hSw); go_simp) <;> with_reducible rfl)
      try simp only [sA, sB, sC, Act.put, sD, sE, sF]
      refine wpAnyH_take (i := 3) (v := ?vve3) rfl (by kernel_rfl) (by kernel_rfl) (by kernel_rfl) (fun _ _ _ h => h) (Or.inl ⟨by rfl, ?hye3⟩) (by assumption) ?reste3
      case hye3 => ((intro w hSw; (try dsimp only at hSw); go_simp) <;> with_reducible rfl)
      try simp only [sA, sB, sC, Act.put, sD, sE, sF]
      refine wpAnyH_take (i := 4) (v := ?vve4) rfl (by kernel_rfl) (by kernel_rfl) (by kernel_rfl) (fun _ _ _ h => h) (Or.inl ⟨by rfl, ?hye4⟩) (by assumption) ?reste4
      case hye4 => ((intro w hSw; (try dsimp only at hSw); go_simp) <;> with_reducible rfl)
      try simp only [sA, sB, sC, Act.put, sD, sE, sF]
      refine wpAnyH_take (i := 5) (v := ?vve5) rfl (by kernel_rfl) (by kernel_rfl) (by kernel_rfl) (fun _ _ _ h => h) (Or.inl ⟨by rfl, ?hye5⟩) (by assumption) ?reste5
      case hye5 => ((intro w hSw; (try dsimp only at hSw); go_simp) <;> with_reducible rfl)
      try simp only [sA, sB, sC, Act.put, sD, sE, sF]
      refine wpAnyH_take (i := 6) (v := ?vve6) rfl (by kernel_rfl) (by kernel_rfl) (by kernel_rfl) (fun _ _ _ h => h) (Or.inl ⟨by rfl, ?hye6⟩) (by assumption) ?reste6
      case hye6 => ((intro w hSw; (try dsimp only at hSw); go_simp) <;> with_reducible rfl)
      try simp only [sA, sB, sC, Act.put, sD, sE, sF]
      refine wpAnyH_take (i := 13) (v := ?vve13) rfl (by kernel_rfl) (by kernel_rfl) (by kernel_rfl) (fun _ _ _ h => h) (Or.inl ⟨by rfl, ?hye13⟩) (by assumption) ?reste13
      case hye13 => ((intro w hSw; (try dsimp only at hSw); go_simp) <;> with_reducible rfl)
      try simp only [sA, sB, sC, Act.put, sD, sE, sF]
      refine wpAnyH_ready (rs := [7]) (by kernel_rfl) (by simp) ?_
      refine AllReadyH.cons rfl (fun K hK => ?_) AllReadyH.nil
      go_simp
      go_at_call 59
      refine (HN.out _ HB0.out).mono ?_
      rintro e w1 ⟨hb1, hhow⟩
      have hp : ∃ uo uc, e = .returned (.slice uo l.length uc) ∧ IntsAt .i64 w1 uo l ∧ l.length ≤ x0.length + 1 := by
        rcases hhow with ⟨l', uo, uc, h1, h2, h3, h4⟩ | ⟨h1, _⟩
        · rw [HV.out] at h1
          cases h1
          exact ⟨uo, uc, h2, h3, h4⟩
        · rw [HV.out] at h1
          cases h1
      obtain ⟨uo, uc, hp, hat, hll⟩ := hp
      subst hp
      have HB1 := Lib.hid (HB0.out.trans (hb1.mono HB0.out.size))
      have HAT := Lib.hid (And.intro hat (show l.length ≤ maxLen by unfold maxLen; omega))
      clear hb1 hhow hat hll
      refine hK.out _ _ ?hSe7 (fun hHeld => ?_)
      case hSe7 => exact HS.out _ HB1.out
      clear hK K
      try simp only [sA, sB, sC, Act.put, sD, sE, sF]
      refine wpAnyH_ready (rs := [8]) (by kernel_rfl) (by simp) ?_
      refine AllReadyH.cons rfl (fun K hK => ?_) AllReadyH.nil
      go_simp
      go_at_call 62
      refine (less_any g d.gen HD.out.1.right l uo uc HAT.out.2 (fun x hx => by have := HTO.out x hx; unfold i64ok; omega) _ (HD.out.1.gen.on HB1.out) HAT.out.1).mono ?_
      rintro e w2 ⟨hb2, hhow⟩
      have HB2 := Lib.hid (HB1.out.trans (hb2.mono HB1.out.size))
      have hp : e = .returned (.tuple #[.slice none 0 0, .iface 36 (.int .i64 c)]) := by
        rcases hhow with ⟨x, u, h1, _⟩ | ⟨c', h1, h2⟩
        · rw [HQ.out] at h1
          cases h1
        · rw [HQ.out] at h1
          cases h1
          exact h2
      subst hp
      clear hb2 hhow
      refine hK.out _ _ ?hSe8 (fun hHeld => ?_)
      case hSe8 => exact HS.out _ HB2.out
      clear hK K
      try simp only [sA, sB, sC, Act.put, sD, sE, sF]
      refine wpAnyH_take (i := 9) (v := ?vve9) rfl (by kernel_rfl) (by kernel_rfl) (by kernel_rfl) (fun _ _ _ h => h) (Or.inl ⟨by rfl, ?hye9⟩) (by assumption) ?reste9
      case hye9 => ((intro w hSw; (try dsimp only at hSw); go_simp) <;> with_reducible rfl)
      try simp only [sA, sB, sC, Act.put, sD, sE, sF]
      refine wpAnyH_take (i := 10) (v := ?vve10) rfl (by kernel_rfl) (by kernel_rfl) (by kernel_rfl) (fun _ _ _ h => h) (Or.inl ⟨by rfl, ?hye10⟩) (by assumption) ?reste10
      case hye10 => ((intro w hSw; (try dsimp only at hSw); go_simp) <;> with_reducible rfl)
      try simp only [sA, sB, sC, Act.put, sD, sE, sF]
      refine wpAnyH_ready (rs := [11]) (by kernel_rfl) (by simp) ?_
      refine AllReadyH.cons rfl (fun K hK => ?_) AllReadyH.nil
      go_simp
      go_at_call 61
      refine (must_rows_err (.slice none 0 0) c w2).mono ?_
      rintro e w3 ⟨rfl, rfl⟩
      go_simp
      exact body_panics (HD.out.1.idle HB2.out (by unfold lessF; rw [HV.out]; simp only; rw [HQ.out]))
    | ok x =>
      have HQ := Lib.hid hn
      clear hn
      obtain ⟨rows, hrows⟩ : ∃ rows, rows = less g l := ⟨_, rfl⟩
      have HRW := Lib.hid hrows
      clear hrows
      go_enter Tryz.func60, Tryz.ntmps60
      go_wp2_with fail
      refine wp_region_held_drew (S := fun w' => w'.cell? ⟨db, 0, none⟩ = some (.int .i64 d.gk) ∧ w'.cell? ⟨db, 1, none⟩ = some (.int .i64 d.ga) ∧ w'.cell? ⟨db, 2, none⟩ = some (.int .i64 d.gb) ∧ w'.cell? ⟨db, 3, none⟩ = some (.slice d.gao d.gn d.gc) ∧ w'.cell? ⟨b, o, none⟩ = some (str x0)) (by kernel_rfl) ?hS0f (fun hHeld => ?_)
      case hS0f => exact HS.out _ HB0.out
      refine wpAnyH_take (i := 0) (v := ?vvf0) rfl (by kernel_rfl) (by kernel_rfl) (by kernel_rfl) (fun _ _ _ h => h) (Or.inl ⟨by rfl, ?hyf0⟩) (by assumption) ?restf0
      case hyf0 => ((intro w hSw; (try dsimp only at hSw); go_simp) <;> with_reducible rfl)
      try simp only [sA, sC, Act.put, sD, sE, sF]
      refine wpAnyH_take (i := 1) (v := ?vvf1) rfl (by kernel_rfl) (by kernel_rfl) (by kernel_rfl) (fun _ _ _ h => h) (Or.inl ⟨by rfl, ?hyf1⟩) (by assumption) ?restf1
      case hyf1 => ((intro w hSw; (try dsimp only at hSw); go_simp) <;> with_reducible rfl)
      try simp only [sA, sB, sC, Act.put, sD, sE, sF]
      refine wpAnyH_take (i := 2) (v := ?vvf2) rfl (by kernel_rfl) (by kernel_rfl) (by kernel_rfl) (fun _ _ _ h => h) (Or.inl ⟨by rfl, ?hyf2⟩) (by assumption) ?restf2
      case hyf2 => ((intro w hSw; (try dsimp only at hSw); go_simp) <;> with_reducible rfl)
      try simp only [sA, sB, sC, Act.put, sD, sE, sF]
      refine wpAnyH_take (i := 3) (v := ?vvf3) rfl (by kernel_rfl) (by kernel_rfl) (by kernel_rfl) (fun _ _ _ h => h) (Or.inl ⟨by rfl, ?hyf3⟩) (by assumption) ?restf3
      case hyf3 => ((intro w hSw; (try dsimp only at hSw); go_simp) <;> with_reducible rfl)
      try simp only [sA, sB, sC, Act.put, sD, sE, sF]
      refine wpAnyH_take (i := 4) (v := ?vvf4) rfl (by kernel_rfl) (by kernel_rfl) (by kernel_rfl) (fun _ _ _ h => h) (Or.inl ⟨by rfl, ?hyf4⟩) (by assumption) ?restf4
      case hyf4 => ((intro w hSw; (try dsimp only at hSw); go_simp) <;> with_reducible rfl)
      try simp only [sA, sB, sC, Act.put, sD, sE, sF]
      refine wpAnyH_take (i := 5) (v := ?vvf5) rfl (by kernel_rfl) (by kernel_rfl) (by kernel_rfl) (fun _ _ _ h => h) (Or.inl ⟨by rfl, ?hyf5⟩) (by assumption) ?restf5
      case hyf5 => ((intro w hSw; (try dsimp only at hSw); go_simp) <;> with_reducible rfl)
      try simp only [sA, sB, sC, Act.put, sD, sE, sF]
      refine wpAnyH_take (i := 6) (v := ?vvf6) rfl (by kernel_rfl) (by kernel_rfl) (by kernel_rfl) (fun _ _ _ h => h) (Or.inl ⟨by rfl, ?hyf6⟩) (by assumption) ?restf6
      case hyf6 => ((intro w hSw; (try dsimp only at hSw); go_simp) <;> with_reducible rfl)
      try simp only [sA, sB, sC, Act.put, sD, sE, sF]
      refine wpAnyH_take (i := 13) (v := ?vvf13) rfl (by kernel_rfl) (by kernel_rfl) (by kernel_rfl) (fun _ _ _ h => h) (Or.inl ⟨by rfl, ?hyf13⟩) (by assumption) ?restf13
      case hyf13 => ((intro w hSw; (try dsimp only at hSw); go_simp) <;> with_reducible rfl)
      try simp only [sA, sB, sC, Act.put, sD, sE, sF]
      refine wpAnyH_ready (rs := [7]) (by kernel_rfl) (by simp) ?_
      refine AllReadyH.cons rfl (fun K hK => ?_) AllReadyH.nil
      go_simp
      go_at_call 59
      refine (HN.out _ HB0.out).mono ?_
      rintro e w1 ⟨hb1, hhow⟩
      have hp : ∃ uo uc, e = .returned (.slice uo l.length uc) ∧ IntsAt .i64 w1 uo l ∧ l.length ≤ x0.length + 1 := by
        rcases hhow with ⟨l', uo, uc, h1, h2, h3, h4⟩ | ⟨h1, _⟩
        · rw [HV.out] at h1
          cases h1
          exact ⟨uo, uc, h2, h3, h4⟩
        · rw [HV.out] at h1
          cases h1
      obtain ⟨uo, uc, hp, hat, hll⟩ := hp
      subst hp
      have HB1 := Lib.hid (HB0.out.trans (hb1.mono HB0.out.size))
      have HAT := Lib.hid (And.intro hat (show l.length ≤ maxLen by unfold maxLen; omega))
      clear hb1 hhow hat hll
      refine hK.out _ _ ?hSf7 (fun hHeld => ?_)
      case hSf7 => exact HS.out _ HB1.out
      clear hK K
      try simp only [sA, sB, sC, Act.put, sD, sE, sF]
      refine wpAnyH_ready (rs := [8]) (by kernel_rfl) (by simp) ?_
      refine AllReadyH.cons rfl (fun K hK => ?_) AllReadyH.nil
      go_simp
      go_at_call 62
      refine (less_any g d.gen HD.out.1.right l uo uc HAT.out.2 (fun x hx => by have := HTO.out x hx; unfold i64ok; omega) _ (HD.out.1.gen.on HB1.out) HAT.out.1).mono ?_
      rintro e w2 ⟨hb2, hhow⟩
      have HB2 := Lib.hid (HB1.out.trans (hb2.mono HB1.out.size))
      have hp : ∃ vo vc B0, e = .returned (.tuple #[.slice vo rows.length vc, .nilIface]) ∧ GridOwn w2 B0 (.slice vo rows.length vc) rows := by
        rcases hhow with ⟨x', u, h1, h2, h3⟩ | ⟨c', h1, h2⟩
        · rw [← HRW.out] at h3
          obtain ⟨vo, vc, rfl⟩ := h3.shape
          exact ⟨vo, vc, _, h2, h3⟩
        · rw [HQ.out] at h1
          cases h1
      obtain ⟨vo, vc, B0, hp, hgr⟩ := hp
      subst hp
      have HGR := Lib.hid hgr
      clear hb2 hhow hgr
      refine hK.out _ _ ?hSf8 (fun hHeld => ?_)
      case hSf8 => exact HS.out _ HB2.out
      clear hK K
      try simp only [sA, sB, sC, Act.put, sD, sE, sF]
      refine wpAnyH_take (i := 9) (v := ?vvf9) rfl (by kernel_rfl) (by kernel_rfl) (by kernel_rfl) (fun _ _ _ h => h) (Or.inl ⟨by rfl, ?hyf9⟩) (by assumption) ?restf9
      case hyf9 => ((intro w hSw; (try dsimp only at hSw); go_simp) <;> with_reducible rfl)
      try simp only [sA, sB, sC, Act.put, sD, sE, sF]
      refine wpAnyH_take (i := 10) (v := ?vvf10) rfl (by kernel_rfl) (by kernel_rfl) (by kernel_rfl) (fun _ _ _ h => h) (Or.inl ⟨by rfl, ?hyf10⟩) (by assumption) ?restf10
      case hyf10 => ((intro w hSw; (try dsimp only at hSw); go_simp) <;> with_reducible rfl)
      try simp only [sA, sB, sC, Act.put, sD, sE, sF]
      refine wpAnyH_ready (rs := [11]) (by kernel_rfl) (by simp) ?_
      refine AllReadyH.cons rfl (fun K hK => ?_) AllReadyH.nil
      go_simp
      go_at_call 61
      refine (must_rows vo rows.length vc w2).mono ?_
      rintro e w3 ⟨rfl, rfl⟩
      refine hK.out _ _ ?hSf11 (fun hHeld => ?_)
      case hSf11 => exact HS.out _ HB2.out
      clear hK K
      try simp only [sA, sB, sC, Act.put, sD, sE, sF]
      refine wpAnyH_take (i := 12) (v := ?vvf12) rfl (by kernel_rfl) (by kernel_rfl) (by kernel_rfl) (fun _ _ _ h => h) (Or.inl ⟨by rfl, ?hyf12⟩) (by assumption) ?restf12
      case hyf12 => ((intro w hSw; (try dsimp only at hSw); go_simp) <;> with_reducible rfl)
      try simp only [sA, sB, sC, Act.put, sD, sE, sF]
      refine wpAnyH_done (by kernel_rfl) ?_ _
      have hrl : rows.length ≤ 1000000 := by
        rw [HRW.out]
        have h1 := less_len g l l.length
        have h2 := replay_short HD.out.1.right HQ.out
        unfold less
        omega
      obtain ⟨vs, hv1, hv2⟩ := HGR.out
      have HG := Lib.hid (And.intro hv1 hv2)
      have HRO := Lib.hid (fun (m : List Int) (hm : m ∈ rows) => less_rows HD.out.1.right l m (by rw [← HRW.out]; exact hm))
      clear hv1 hv2
      go_wp2_with fail
      obtain ⟨w9, hw9⟩ : ∃ w9, w9 = w3 := ⟨_, rfl⟩
      subst hw9
      obtain ⟨m, hm⟩ : ∃ m, m = rows.length := ⟨_, rfl⟩
      have HM := Lib.hid hm
      rw [← hm] at hrl ⊢
      clear hm
      go_loopw [5, 21] (fun tv kv wr => ∃ k : Nat, kv = .int .i64 (k : Int) ∧ k ≤ m ∧ RowKit.Hid (Below w9.heap.size w9 wr ∧ wr.ownsRow w9.heap.size 9 1 tv k (((rows.take k).map ttext).map str))) (fun _ kv _ => m - (intOf kv).toNat)
      case atStart => exact ⟨0, rfl, by omega, Lib.hid ⟨Below.refl _ _, World.ownsRow_nil _ _ _ _⟩⟩
      case round =>
        obtain ⟨k, rfl, hk, HK⟩ := hrel
        rcases Nat.lt_or_ge k m with hkm | hkm
        · have hkr : k < rows.length := by rw [← HM.out]; exact hkm
          obtain ⟨vj, hvj, hoj⟩ := HG.out.2 k hkr
          obtain ⟨jo, jc, rfl⟩ := owns_shape hoj
          obtain ⟨t, ht⟩ : ∃ t, rows.getD k [] = t := ⟨_, rfl⟩
          rw [ht] at hvj hoj
          have hmem : rows[k]? = some t := by rw [← ht]; simp [hkr]
          obtain ⟨ht6, ht1⟩ := HRO.out t (List.mem_of_getElem? hmem)
          rcases id HG.out.1.2 with ⟨_, h0⟩ | ⟨q, cap, cur, h1, hq1, hq2, _⟩
          · omega
          · simp only [Value.slice.injEq] at h1
            obtain ⟨rfl, _, rfl⟩ := h1
            have hcell := HG.out.1.cellAt k (by omega)
            rw [hvj] at hcell
            have hck : wr.cell? ⟨q, k, none⟩ = some (.slice jo t.length jc) := (HK.out.1.cell (p := ⟨q, k, none⟩) (Array.getElem?_eq_some_iff.1 hq2).1).trans hcell
            have hi0' : (0 : Int) ≤ (k : Int) := by omega
            have hi1 : (k : Int) < (m : Int) := by omega
            have hw1 : IntKind.i64.wrap ((k : Int) + 1) = ((k + 1 : Nat) : Int) := by rw [IntWalk.i64_in _ (by omega)]; omega
            have hti : ∀ x ∈ t, i64ok x := fun x hx => by have := ht1 x hx; unfold i64ok; omega
            have HC := Lib.hid (tape_text_any t jo t.length jc rfl (by omega) hti wr ((HD.out.2.on HB2.out).on HK.out.1) ((IntsAt.of_owns hoj).below (Nat.le_refl _) HK.out.1))
            have HMM := Lib.hid hmem
            clear hmem ht hcell hvj hoj hq2 hti ht6 ht1
            go_wp2_with fail
            refine HC.out.mono ?_
            clear HC
            rintro e w3 ⟨rfl, hb3⟩
            have hb3' := HK.out.1.trans (hb3.mono HK.out.1.size)
            have HO := Lib.hid (owns_below HK.out.2 hb3)
            have HB := Lib.hid hb3'
            have hsz := hb3'.size
            clear hb3 hb3'
            obtain ⟨tt, htt⟩ : ∃ tt, tt = ttext t := ⟨_, rfl⟩
            rw [← htt]
            have HTT := Lib.hid htt
            clear htt
            go_wp2_with (at_builtin; refine wpList_push2 _ rfl _ _ 23 rfl w9.heap.size 9 i0 (.string ⟨#[]⟩) 1 16 Tryz.underlying23 hi0 hz0 hz1 hz2 rfl (by decide) _ _ _ rfl (HO.out.alloc _) ⟨w3.heap.size, 0, none⟩ 1 [str tt] rfl rfl (World.news_of_block (cs := #[str tt]) (t := 9) (fr := (0, 0)) (heap_alloc_at _ _ rfl)) (str1 _) (by unfold maxLen; omega) (by omega) (by simp; omega) ?_)
            intro g7 cap7 w7 hown hgr hat7
            have HB7 := Lib.hid ((HB.out.alloc hsz (.cells #[str tt] 9)).grown hgr (by simp; omega) (fun q hq => (HO.out.lt q hq).1))
            have HO7 := Lib.hid (show w7.ownsRow w9.heap.size 9 1 (.slice (some ⟨g7, 0, none⟩) (k + 1) cap7) (k + 1) (((rows.take (k + 1)).map ttext).map str) by
              rw [List.take_add_one, HMM.out, List.map_append, List.map_append]
              simpa [← HTT.out] using hown)
            clear hown hgr hat7
            go_wp2_with fail
            go_roundw
            case rel => exact ⟨k + 1, by go_num, by omega, Lib.hid ⟨HB7.out, HO7.out⟩⟩
            case measure => simp [intOf]; omega
        · obtain rfl : k = m := by omega
          have hO := HK.out.2
          rw [List.take_of_length_le (by rw [← HM.out]; exact Nat.le_refl _)] at hO
          have HC := Lib.hid (join_any (rows.map ttext) 32 _ _ 200 (by omega) (by rw [List.length_map, ← HM.out]; omega) (fun x hx => by
            obtain ⟨t, ht, rfl⟩ := List.mem_map.1 hx
            obtain ⟨h1, h2⟩ := HRO.out t ht
            exact ttext_len h1 h2) wr (by rw [List.length_map, ← HM.out]; exact hO))
          clear hO
          go_wp2_with fail
          refine HC.out.mono ?_
          rintro e w3 ⟨rfl, hb3⟩
          have HB := Lib.hid (HB2.out.trans ((HK.out.1.trans (hb3.mono HK.out.1.size)).mono HB2.out.size))
          clear hb3
          go_wp2_with fail
          go_ret
          exact HD.out.1.says HB.out (by unfold lessF; rw [HV.out]; simp only; rw [HQ.out]; simp only; rw [← HRW.out])
end Go.Proofs.YtalbllijahiiiaaGreatDoor
