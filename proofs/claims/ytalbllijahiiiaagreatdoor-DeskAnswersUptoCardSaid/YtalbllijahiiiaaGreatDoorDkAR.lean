/- The desk's forms whose regions draw their order: int, many, nth, show, less, run. -/
import Derived.Test.YtalbllijahiiiaaGreatDoorDkAQ
import Derived.Deep.RegionHeld
import Derived.Deep.RegionHeld3
namespace Go.Proofs.YtalbllijahiiiaaGreatDoor
open Go.RowKit Go.Mine Go.Mine.Desk

def intR (st : St) (x y : Bytes) : Except Int (Bytes × St) := match wordV x, wordV y with
  | some xa, some xb => setR st (.int xa xb)
  | _, _ => .error 7
def manyR (st : St) (x y z : Bytes) : Except Int (Bytes × St) := match wordV x, wordV y, wordV z with
  | some xa, some xb, some xn => setR st (.many xn xa xb)
  | _, _, _ => .error 7
def nthF (st : St) (x : Bytes) : Except Int (Bytes × St) := match wordV x with
  | some m => match nthR st.1 m with
    | .ok l => .ok (ttext l, st)
    | .error c => .error c
  | none => .error 7
def showF (st : St) (x : Bytes) : Except Int (Bytes × St) := match tapeV x with
  | some l => match replay st.1 l with
    | .ok v => .ok (vtext v, st)
    | .error c => .error c
  | none => .error 7
def lessF (st : St) (x : Bytes) : Except Int (Bytes × St) := match tapeV x with
  | some l => match replay st.1 l with
    | .ok _ => .ok (Go.Lib.join ((less st.1 l).map ttext) [32], st)
    | .error c => .error c
  | none => .error 7
theorem numX_none {x : Bytes} (h : wordV x = none) : numX x = .error 7 := by unfold numX; rw [h]
theorem numX_some {x : Bytes} {m : Int} (h : wordV x = some m) : numX x = .ok (.int .i64 m) := by unfold numX; rw [h]
theorem DeskIs.idle {w w' : World} {db : Nat} {d : DV} {g : G} {n : Int} (h : DeskIs w db d g n) (hb : Below w.heap.size w w') {c : Int} {r : Except Int (Bytes × St)} (hr : r = .error c) : FormPost (g, n) r db w (panics c) w' :=
  ⟨Tch.of_below hb, .inr ⟨c, hr, rfl, (h.on hb).at⟩⟩
theorem DeskIs.says {w w' : World} {db : Nat} {d : DV} {g : G} {n : Int} (h : DeskIs w db d g n) (hb : Below w.heap.size w w') {s : Bytes} {r : Except Int (Bytes × St)} (hr : r = .ok (s, (g, n))) : FormPost (g, n) r db w (.returned (str s)) w' :=
  ⟨Tch.of_below hb, .inl ⟨s, _, hr, rfl, (h.on hb).at⟩⟩
theorem digsN_i64 {c : Int} (hc : 0 < c) : ∀ (j : Nat) (i : Int), 0 ≤ i → i ≤ 1048576 → ∀ x ∈ digsN c j i, i64ok x
  | 0, _, _, _, x, hx => by simp [digsN] at hx
  | j + 1, i, h0, h1, x, hx => by
    rw [digsN, List.mem_cons] at hx
    have hp : 0 < c ^ j := Int.pow_pos hc
    rcases hx with rfl | hx
    · have h2 : 0 ≤ i / c ^ j := Int.ediv_nonneg h0 (by omega)
      have h3 : i / c ^ j ≤ i := Int.ediv_le_self _ h0
      unfold i64ok
      omega
    · have h2 : 0 ≤ i % c ^ j := Int.emod_nonneg _ (by omega)
      have h3 : i % c ^ j ≤ i := by
        have e := Int.emod_add_mul_ediv i (c ^ j)
        have q : 0 ≤ c ^ j * (i / c ^ j) := Int.mul_nonneg (by omega) (Int.ediv_nonneg h0 (by omega))
        omega
      exact digsN_i64 hc j _ h2 (by omega) x hx
theorem findK_nn {m : Nat → Int} (hm : ∀ k, 0 ≤ m k) : ∀ (f k : Nat) (i : Int), 0 ≤ i → 0 ≤ (findK m f k i).2 ∧ (findK m f k i).2 ≤ i
  | 0, k, i, h => ⟨h, Int.le_refl _⟩
  | f + 1, k, i, h => by
    rw [findK]
    split
    · exact ⟨h, Int.le_refl _⟩
    · rename_i hk
      have h1 := hm k
      have := findK_nn hm f (k + 1) (i - m k) (by omega)
      exact ⟨this.1, by omega⟩
theorem nthR_ok {g : G} (hr : g.right) {m : Int} {l : List Int} (h : nthR g m = .ok l) : l.length ≤ 2000000 ∧ ∀ x ∈ l, i64ok x := by
  unfold nthR at h
  split at h
  · cases h
  · split at h
    · cases h
    · rename_i h1 h2
      cases h
      have hl := nthS_len hr m
      refine ⟨by unfold nth; omega, fun x hx => ?_⟩
      unfold nth nthS at hx
      have hw : 0 < wide g := by
        cases g with
        | int a b => have := hr.2.2.1; simp only [wide]; omega
        | many n a b => have := hr.2.2.2.2.1; simp only [wide]; omega
      have hmn : ∀ k, 0 ≤ mW g 0 k := fun k => by
        unfold mW
        exact Int.mul_nonneg (Int.le_of_lt (Int.pow_pos hw)) (Int.le_of_lt (Int.pow_pos hw))
      obtain ⟨p1, p2⟩ := findK_nn hmn (brN g) 0 m (by omega)
      rw [List.mem_cons] at hx
      rcases hx with rfl | hx
      · have h3 := findK_le (mW g 0) (brN g) 0 m
        have h4 : brN g ≤ 1001 := by
          cases g with
          | int a b => rw [brN_int]; have := hr.2.2.2; omega
          | many n a b => rw [brN_many]; have := hr.2.1; omega
        unfold i64ok
        omega
      · exact digsN_i64 hw _ _ p1 (by have := cnt_b hr; omega) x hx
set_option maxRecDepth 100000 in
set_option maxHeartbeats 4000000 in
theorem form5_any (db : Nat) (g : G) (n : Int) (wo : Option Addr) (wc : Nat) (x0 : Bytes) (hx0 : x0.length ≤ 1100000) (w : World) (hg : Gl w) (hd : DeskAt w db g n) (hw : StrsAt w wo [x0]) :
    Calls Tryz.prog 51 #[.pointer (some ⟨db, 0, none⟩), .slice wo 1 wc] w (FormPost (g, n) (nthF (g, n) x0) db w) := by
  obtain ⟨d, hd⟩ := hd
  obtain ⟨b, o, rfl, hc⟩ := hw 0 (by simp)
  have hc0 : w.cell? ⟨b, o, none⟩ = some (str x0) := hc
  have hbl : b < w.heap.size := World.block_lt_of_cell? w _ hc0
  have e0 : w.cell? ⟨db, 0, none⟩ = some (.int .i64 d.gk) := hd.blk.cell 0
  have e1 : w.cell? ⟨db, 1, none⟩ = some (.int .i64 d.ga) := hd.blk.cell 1
  have e2 : w.cell? ⟨db, 2, none⟩ = some (.int .i64 d.gb) := hd.blk.cell 2
  have e3 : w.cell? ⟨db, 3, none⟩ = some (.slice d.gao d.gn d.gc) := hd.blk.cell 3
  have hdl : db < w.heap.size := hd.blk.lt
  have HS := Lib.hid (fun (w' : World) (hb : Below w.heap.size w w') => (show (fun w' => w'.cell? ⟨db, 0, none⟩ = some (.int .i64 d.gk) ∧ w'.cell? ⟨db, 1, none⟩ = some (.int .i64 d.ga) ∧ w'.cell? ⟨db, 2, none⟩ = some (.int .i64 d.gb) ∧ w'.cell? ⟨db, 3, none⟩ = some (.slice d.gao d.gn d.gc) ∧ w'.cell? ⟨b, o, none⟩ = some (str x0)) w' from ⟨(hb.cell (by exact hdl)).trans e0, (hb.cell (by exact hdl)).trans e1, (hb.cell (by exact hdl)).trans e2, (hb.cell (by exact hdl)).trans e3, (hb.cell (by exact hbl)).trans hc0⟩))
  have HD := Lib.hid (And.intro hd hg)
  have HB0 := Lib.hid (show Below w.heap.size w w.drew from (Below.refl _ _).drew)
  have HN := Lib.hid (fun (wx : World) (hbx : Below w.heap.size w wx) => number_any x0 (by omega) wx (hg.on hbx))
  clear hd hg hw hc
  cases hv : wordV x0 with
  | none =>
    have HV := Lib.hid hv
    clear hv
    go_enter Tryz.func51, Tryz.ntmps51
    go_wp2_with fail
    refine wp_region_held_drew (S := fun w' => w'.cell? ⟨db, 0, none⟩ = some (.int .i64 d.gk) ∧ w'.cell? ⟨db, 1, none⟩ = some (.int .i64 d.ga) ∧ w'.cell? ⟨db, 2, none⟩ = some (.int .i64 d.gb) ∧ w'.cell? ⟨db, 3, none⟩ = some (.slice d.gao d.gn d.gc) ∧ w'.cell? ⟨b, o, none⟩ = some (str x0)) (by kernel_rfl) ?hS0a (fun hHeld => ?_)
    case hS0a => exact HS.out _ HB0.out
    refine wpAnyH_take (i := 0) (v := ?vva0) rfl (by kernel_rfl) (by kernel_rfl) (by kernel_rfl) (fun _ _ _ h => h) (Or.inl ⟨by rfl, ?hya0⟩) (by assumption) ?resta0
    case hya0 => ((intro w hSw; (try dsimp only at hSw); go_simp) <;> with_reducible rfl)
    try simp only [sA, sC, Act.put, sD, sE, sF]
    refine wpAnyH_take (i := 1) (v := ?vva1) rfl (by kernel_rfl) (by kernel_rfl) (by kernel_rfl) (fun _ _ _ h => h) (Or.inl ⟨by rfl, ?hya1⟩) (by assumption) ?resta1
    case hya1 => ((intro w hSw; (try dsimp only at hSw); go_simp) <;> with_reducible rfl)
    try simp only [sA, sB, sC, Act.put, sD, sE, sF]
    refine wpAnyH_take (i := 2) (v := ?vva2) rfl (by kernel_rfl) (by kernel_rfl) (by kernel_rfl) (fun _ _ _ h => h) (Or.inl ⟨by rfl, ?hya2⟩) (by assumption) ?resta2
    case hya2 => ((intro w hSw; (try dsimp only at hSw); go_simp) <;> with_reducible rfl)
    try simp only [sA, sB, sC, Act.put, sD, sE, sF]
    refine wpAnyH_take (i := 3) (v := ?vva3) rfl (by kernel_rfl) (by kernel_rfl) (by kernel_rfl) (fun _ _ _ h => h) (Or.inl ⟨by rfl, ?hya3⟩) (by assumption) ?resta3
    case hya3 => ((intro w hSw; (try dsimp only at hSw); go_simp) <;> with_reducible rfl)
    try simp only [sA, sB, sC, Act.put, sD, sE, sF]
    refine wpAnyH_take (i := 4) (v := ?vva4) rfl (by kernel_rfl) (by kernel_rfl) (by kernel_rfl) (fun _ _ _ h => h) (Or.inl ⟨by rfl, ?hya4⟩) (by assumption) ?resta4
    case hya4 => ((intro w hSw; (try dsimp only at hSw); go_simp) <;> with_reducible rfl)
    try simp only [sA, sB, sC, Act.put, sD, sE, sF]
    refine wpAnyH_take (i := 5) (v := ?vva5) rfl (by kernel_rfl) (by kernel_rfl) (by kernel_rfl) (fun _ _ _ h => h) (Or.inl ⟨by rfl, ?hya5⟩) (by assumption) ?resta5
    case hya5 => ((intro w hSw; (try dsimp only at hSw); go_simp) <;> with_reducible rfl)
    try simp only [sA, sB, sC, Act.put, sD, sE, sF]
    refine wpAnyH_take (i := 6) (v := ?vva6) rfl (by kernel_rfl) (by kernel_rfl) (by kernel_rfl) (fun _ _ _ h => h) (Or.inl ⟨by rfl, ?hya6⟩) (by assumption) ?resta6
    case hya6 => ((intro w hSw; (try dsimp only at hSw); go_simp) <;> with_reducible rfl)
    try simp only [sA, sB, sC, Act.put, sD, sE, sF]
    refine wpAnyH_ready (rs := [7]) (by kernel_rfl) (by simp) ?_
    refine AllReadyH.cons rfl (fun K hK => ?_) AllReadyH.nil
    go_simp
    go_at_call 43
    refine (HN.out _ HB0.out).mono ?_
    rintro e w1 ⟨he, hb1⟩
    have hp := he.err (numX_none HV.out)
    subst hp
    have hb := HB0.out.trans (hb1.mono HB0.out.size)
    go_simp
    exact body_panics (HD.out.1.idle hb (by unfold nthF; rw [HV.out]))
  | some m =>
    have HV := Lib.hid hv
    have HNT := Lib.hid (fun (wx : World) (hbx : Below w.heap.size w wx) => nth_any g d.gen HD.out.1.right m (wordV_near hv) wx (HD.out.1.gen.on hbx))
    unfold DV.gen at HNT
    clear hv
    cases hn : nthR g m with
    | error c =>
      have HQ := Lib.hid hn
      clear hn
      go_enter Tryz.func51, Tryz.ntmps51
      go_wp2_with fail
      refine wp_region_held_drew (S := fun w' => w'.cell? ⟨db, 0, none⟩ = some (.int .i64 d.gk) ∧ w'.cell? ⟨db, 1, none⟩ = some (.int .i64 d.ga) ∧ w'.cell? ⟨db, 2, none⟩ = some (.int .i64 d.gb) ∧ w'.cell? ⟨db, 3, none⟩ = some (.slice d.gao d.gn d.gc) ∧ w'.cell? ⟨b, o, none⟩ = some (str x0)) (by kernel_rfl) ?hS0b (fun hHeld => ?_)
      case hS0b => exact HS.out _ HB0.out
      refine wpAnyH_take (i := 0) (v := ?vvb0) rfl (by kernel_rfl) (by kernel_rfl) (by kernel_rfl) (fun _ _ _ h => h) (Or.inl ⟨by rfl, ?hyb0⟩) (by assumption) ?restb0
      case hyb0 => ((intro w hSw; (try dsimp only at hSw); go_simp) <;> with_reducible rfl)
      try simp only [sA, sC, Act.put, sD, sE, sF]
      refine wpAnyH_take (i := 1) (v := ?vvb1) rfl (by kernel_rfl) (by kernel_rfl) (by kernel_rfl) (fun _ _ _ h => h) (Or.inl ⟨by rfl, ?hyb1⟩) (by assumption) ?restb1
      case hyb1 => ((intro w hSw; (try dsimp only at hSw); go_simp) <;> with_reducible rfl)
      try simp only [sA, sB, sC, Act.put, sD, sE, sF]
      refine wpAnyH_take (i := 2) (v := ?vvb2) rfl (by kernel_rfl) (by kernel_rfl) (by kernel_rfl) (fun _ _ _ h => h) (Or.inl ⟨by rfl, ?hyb2⟩) (by assumption) ?restb2
      case hyb2 => ((intro w hSw; (try dsimp only at hSw); go_simp) <;> with_reducible rfl)
      try simp only [sA, sB, sC, Act.put, sD, sE, sF]
      refine wpAnyH_take (i := 3) (v := ?vvb3) rfl (by kernel_rfl) (by kernel_rfl) (by kernel_rfl) (fun _ _ _ h => h) (Or.inl ⟨by rfl, ?hyb3⟩) (by assumption) ?restb3
      case hyb3 => ((intro w hSw; (try dsimp only at hSw); go_simp) <;> with_reducible rfl)
      try simp only [sA, sB, sC, Act.put, sD, sE, sF]
      refine wpAnyH_take (i := 4) (v := ?vvb4) rfl (by kernel_rfl) (by kernel_rfl) (by kernel_rfl) (fun _ _ _ h => h) (Or.inl ⟨by rfl, ?hyb4⟩) (by assumption) ?restb4
      case hyb4 => ((intro w hSw; (try dsimp only at hSw); go_simp) <;> with_reducible rfl)
      try simp only [sA, sB, sC, Act.put, sD, sE, sF]
      refine wpAnyH_take (i := 5) (v := ?vvb5) rfl (by kernel_rfl) (by kernel_rfl) (by kernel_rfl) (fun _ _ _ h => h) (Or.inl ⟨by rfl, ?hyb5⟩) (by assumption) ?restb5
      case hyb5 => ((intro w hSw; (try dsimp only at hSw); go_simp) <;> with_reducible rfl)
      try simp only [sA, sB, sC, Act.put, sD, sE, sF]
      refine wpAnyH_take (i := 6) (v := ?vvb6) rfl (by kernel_rfl) (by kernel_rfl) (by kernel_rfl) (fun _ _ _ h => h) (Or.inl ⟨by rfl, ?hyb6⟩) (by assumption) ?restb6
      case hyb6 => ((intro w hSw; (try dsimp only at hSw); go_simp) <;> with_reducible rfl)
      try simp only [sA, sB, sC, Act.put, sD, sE, sF]
      refine wpAnyH_ready (rs := [7]) (by kernel_rfl) (by simp) ?_
      refine AllReadyH.cons rfl (fun K hK => ?_) AllReadyH.nil
      go_simp
      go_at_call 43
      refine (HN.out _ HB0.out).mono ?_
      rintro e w1 ⟨he, hb1⟩
      have hp := he.ok (numX_some HV.out)
      subst hp
      have HB1 := Lib.hid (HB0.out.trans (hb1.mono HB0.out.size))
      clear he hb1
      refine hK.out _ _ ?hSb7 (fun hHeld => ?_)
      case hSb7 => exact HS.out _ HB1.out
      clear hK K
      try simp only [sA, sB, sC, Act.put, sD, sE, sF]
      refine wpAnyH_ready (rs := [8]) (by kernel_rfl) (by simp) ?_
      refine AllReadyH.cons rfl (fun K hK => ?_) AllReadyH.nil
      go_simp
      go_at_call 54
      refine (HNT.out _ HB1.out).mono ?_
      rintro e w2 ⟨hb2, hhow⟩
      have HB2 := Lib.hid (HB1.out.trans (hb2.mono HB1.out.size))
      have hp : e = .returned (.tuple #[.slice none 0 0, .iface 36 (.int .i64 c)]) := by
        rcases hhow with ⟨c', h1, h2⟩ | ⟨l, uo, uc, h1, h2, _⟩
        · rw [HQ.out] at h1
          cases h1
          exact h2
        · rw [HQ.out] at h1
          cases h1
      subst hp
      clear hb2 hhow
      refine hK.out _ _ ?hSb8 (fun hHeld => ?_)
      case hSb8 => exact HS.out _ HB2.out
      clear hK K
      try simp only [sA, sB, sC, Act.put, sD, sE, sF]
      refine wpAnyH_take (i := 9) (v := ?vvb9) rfl (by kernel_rfl) (by kernel_rfl) (by kernel_rfl) (fun _ _ _ h => h) (Or.inl ⟨by rfl, ?hyb9⟩) (by assumption) ?restb9
      case hyb9 => ((intro w hSw; (try dsimp only at hSw); go_simp) <;> with_reducible rfl)
      try simp only [sA, sB, sC, Act.put, sD, sE, sF]
      refine wpAnyH_take (i := 10) (v := ?vvb10) rfl (by kernel_rfl) (by kernel_rfl) (by kernel_rfl) (fun _ _ _ h => h) (Or.inl ⟨by rfl, ?hyb10⟩) (by assumption) ?restb10
      case hyb10 => ((intro w hSw; (try dsimp only at hSw); go_simp) <;> with_reducible rfl)
      try simp only [sA, sB, sC, Act.put, sD, sE, sF]
      refine wpAnyH_ready (rs := [11]) (by kernel_rfl) (by simp) ?_
      refine AllReadyH.cons rfl (fun K hK => ?_) AllReadyH.nil
      go_simp
      go_at_call 53
      refine (must_tape_err (.slice none 0 0) c w2).mono ?_
      rintro e w3 ⟨rfl, rfl⟩
      go_simp
      exact body_panics (HD.out.1.idle HB2.out (by unfold nthF; rw [HV.out]; simp only; rw [HQ.out]))
    | ok l =>
      have HQ := Lib.hid hn
      clear hn
      go_enter Tryz.func51, Tryz.ntmps51
      go_wp2_with fail
      refine wp_region_held_drew (S := fun w' => w'.cell? ⟨db, 0, none⟩ = some (.int .i64 d.gk) ∧ w'.cell? ⟨db, 1, none⟩ = some (.int .i64 d.ga) ∧ w'.cell? ⟨db, 2, none⟩ = some (.int .i64 d.gb) ∧ w'.cell? ⟨db, 3, none⟩ = some (.slice d.gao d.gn d.gc) ∧ w'.cell? ⟨b, o, none⟩ = some (str x0)) (by kernel_rfl) ?hS0c (fun hHeld => ?_)
      case hS0c => exact HS.out _ HB0.out
      refine wpAnyH_take (i := 0) (v := ?vvc0) rfl (by kernel_rfl) (by kernel_rfl) (by kernel_rfl) (fun _ _ _ h => h) (Or.inl ⟨by rfl, ?hyc0⟩) (by assumption) ?restc0
      case hyc0 => ((intro w hSw; (try dsimp only at hSw); go_simp) <;> with_reducible rfl)
      try simp only [sA, sC, Act.put, sD, sE, sF]
      refine wpAnyH_take (i := 1) (v := ?vvc1) rfl (by kernel_rfl) (by kernel_rfl) (by kernel_rfl) (fun _ _ _ h => h) (Or.inl ⟨by rfl, ?hyc1⟩) (by assumption) ?restc1
      case hyc1 => ((intro w hSw; (try dsimp only at hSw); go_simp) <;> with_reducible rfl)
      try simp only [sA, sB, sC, Act.put, sD, sE, sF]
      refine wpAnyH_take (i := 2) (v := ?vvc2) rfl (by kernel_rfl) (by kernel_rfl) (by kernel_rfl) (fun _ _ _ h => h) (Or.inl ⟨by rfl, ?hyc2⟩) (by assumption) ?restc2
      case hyc2 => ((intro w hSw; (try dsimp only at hSw); go_simp) <;> with_reducible rfl)
      try simp only [sA, sB, sC, Act.put, sD, sE, sF]
      refine wpAnyH_take (i := 3) (v := ?vvc3) rfl (by kernel_rfl) (by kernel_rfl) (by kernel_rfl) (fun _ _ _ h => h) (Or.inl ⟨by rfl, ?hyc3⟩) (by assumption) ?restc3
      case hyc3 => ((intro w hSw; (try dsimp only at hSw); go_simp) <;> with_reducible rfl)
      try simp only [sA, sB, sC, Act.put, sD, sE, sF]
      refine wpAnyH_take (i := 4) (v := ?vvc4) rfl (by kernel_rfl) (by kernel_rfl) (by kernel_rfl) (fun _ _ _ h => h) (Or.inl ⟨by rfl, ?hyc4⟩) (by assumption) ?restc4
      case hyc4 => ((intro w hSw; (try dsimp only at hSw); go_simp) <;> with_reducible rfl)
      try simp only [sA, sB, sC, Act.put, sD, sE, sF]
      refine wpAnyH_take (i := 5) (v := ?vvc5) rfl (by kernel_rfl) (by kernel_rfl) (by kernel_rfl) (fun _ _ _ h => h) (Or.inl ⟨by rfl, ?hyc5⟩) (by assumption) ?restc5
      case hyc5 => ((intro w hSw; (try dsimp only at hSw); go_simp) <;> with_reducible rfl)
      try simp only [sA, sB, sC, Act.put, sD, sE, sF]
      refine wpAnyH_take (i := 6) (v := ?vvc6) rfl (by kernel_rfl) (by kernel_rfl) (by kernel_rfl) (fun _ _ _ h => h) (Or.inl ⟨by rfl, ?hyc6⟩) (by assumption) ?restc6
      case hyc6 => ((intro w hSw; (try dsimp only at hSw); go_simp) <;> with_reducible rfl)
      try simp only [sA, sB, sC, Act.put, sD, sE, sF]
      refine wpAnyH_ready (rs := [7]) (by kernel_rfl) (by simp) ?_
      refine AllReadyH.cons rfl (fun K hK => ?_) AllReadyH.nil
      go_simp
      go_at_call 43
      refine (HN.out _ HB0.out).mono ?_
      rintro e w1 ⟨he, hb1⟩
      have hp := he.ok (numX_some HV.out)
      subst hp
      have HB1 := Lib.hid (HB0.out.trans (hb1.mono HB0.out.size))
      clear he hb1
      refine hK.out _ _ ?hSc7 (fun hHeld => ?_)
      case hSc7 => exact HS.out _ HB1.out
      clear hK K
      try simp only [sA, sB, sC, Act.put, sD, sE, sF]
      refine wpAnyH_ready (rs := [8]) (by kernel_rfl) (by simp) ?_
      refine AllReadyH.cons rfl (fun K hK => ?_) AllReadyH.nil
      go_simp
      go_at_call 54
      refine (HNT.out _ HB1.out).mono ?_
      rintro e w2 ⟨hb2, hhow⟩
      have HB2 := Lib.hid (HB1.out.trans (hb2.mono HB1.out.size))
      have hp : ∃ uo uc, e = .returned (.tuple #[.slice uo l.length uc, .nilIface]) ∧ IntsAt .i64 w2 uo l := by
        rcases hhow with ⟨c', h1, h2⟩ | ⟨l', uo, uc, h1, h2, h3⟩
        · rw [HQ.out] at h1
          cases h1
        · rw [HQ.out] at h1
          cases h1
          exact ⟨uo, uc, h2, h3⟩
      obtain ⟨uo, uc, hp, hat⟩ := hp
      subst hp
      have HAT := Lib.hid hat
      clear hb2 hhow hat
      refine hK.out _ _ ?hSc8 (fun hHeld => ?_)
      case hSc8 => exact HS.out _ HB2.out
      clear hK K
      try simp only [sA, sB, sC, Act.put, sD, sE, sF]
      refine wpAnyH_take (i := 9) (v := ?vvc9) rfl (by kernel_rfl) (by kernel_rfl) (by kernel_rfl) (fun _ _ _ h => h) (Or.inl ⟨by rfl, ?hyc9⟩) (by assumption) ?restc9
      case hyc9 => ((intro w hSw; (try dsimp only at hSw); go_simp) <;> with_reducible rfl)
      try simp only [sA, sB, sC, Act.put, sD, sE, sF]
      refine wpAnyH_take (i := 10) (v := ?vvc10) rfl (by kernel_rfl) (by kernel_rfl) (by kernel_rfl) (fun _ _ _ h => h) (Or.inl ⟨by rfl, ?hyc10⟩) (by assumption) ?restc10
      case hyc10 => ((intro w hSw; (try dsimp only at hSw); go_simp) <;> with_reducible rfl)
      try simp only [sA, sB, sC, Act.put, sD, sE, sF]
      refine wpAnyH_ready (rs := [11]) (by kernel_rfl) (by simp) ?_
      refine AllReadyH.cons rfl (fun K hK => ?_) AllReadyH.nil
      go_simp
      go_at_call 53
      refine (must_tape uo l.length uc w2).mono ?_
      rintro e w3 ⟨rfl, rfl⟩
      refine hK.out _ _ ?hSc11 (fun hHeld => ?_)
      case hSc11 => exact HS.out _ HB2.out
      clear hK K
      try simp only [sA, sB, sC, Act.put, sD, sE, sF]
      refine wpAnyH_ready (rs := [12]) (by kernel_rfl) (by simp) ?_
      refine AllReadyH.cons rfl (fun K hK => ?_) AllReadyH.nil
      go_simp
      go_at_call 52
      refine (tape_text_any l uo l.length uc rfl (nthR_ok HD.out.1.right HQ.out).1 (nthR_ok HD.out.1.right HQ.out).2 _ (HD.out.2.on HB2.out) HAT.out).mono ?_
      rintro e w4 ⟨rfl, hb4⟩
      have HB4 := Lib.hid (HB2.out.trans (hb4.mono HB2.out.size))
      clear hb4
      refine hK.out _ _ ?hSc12 (fun hHeld => ?_)
      case hSc12 => exact HS.out _ HB4.out
      clear hK K
      try simp only [sA, sB, sC, Act.put, sD, sE, sF]
      refine wpAnyH_take (i := 13) (v := ?vvc13) rfl (by kernel_rfl) (by kernel_rfl) (by kernel_rfl) (fun _ _ _ h => h) (Or.inl ⟨by rfl, ?hyc13⟩) (by assumption) ?restc13
      case hyc13 => ((intro w hSw; (try dsimp only at hSw); go_simp) <;> with_reducible rfl)
      try simp only [sA, sB, sC, Act.put, sD, sE, sF]
      refine wpAnyH_done (by kernel_rfl) ?_ _
      go_wp2_with fail
      go_ret
      exact HD.out.1.says HB4.out (by unfold nthF; rw [HV.out]; simp only; rw [HQ.out])
theorem vtext_ok (x : V) (v : Value) (B : Nat) (w : World) (hg : Gl w) (hv : ValAt w B v x) (h : VOk x) : Calls Tryz.prog 56 #[v] w fun e w' => e = .returned (str (vtext x)) ∧ Below w.heap.size w w' := by
  cases x with
  | num z =>
    have h' : small z := h
    unfold small at h'
    exact vtext_any (.num z) v B w hg hv (by show i64ok z; unfold i64ok; omega)
  | list zs =>
    obtain ⟨h1, h2⟩ := (show zs.length ≤ 5 ∧ ∀ z ∈ zs, small z from h)
    exact vtext_any (.list zs) v B w hg hv ⟨by omega, fun z hz => by
      have := h2 z hz
      unfold small at this
      unfold i64ok
      omega⟩
theorem FormPost.after {st : St} {r : Except Int (Bytes × St)} {db : Nat} {w w1 : World} {e : Ending} {w' : World} (hb : Below w.heap.size w w1) (h : FormPost st r db w1 e w') : FormPost st r db w e w' :=
  ⟨(Tch.of_below hb).trans h.1 (fun _ h => .inl h), h.2⟩
set_option maxRecDepth 100000 in
set_option maxHeartbeats 4000000 in
theorem form6_any (db : Nat) (g : G) (n : Int) (wo : Option Addr) (wc : Nat) (x0 : Bytes) (hx0 : x0.length ≤ 1100000) (w : World) (hg : Gl w) (hd : DeskAt w db g n) (hw : StrsAt w wo [x0]) :
    Calls Tryz.prog 55 #[.pointer (some ⟨db, 0, none⟩), .slice wo 1 wc] w (FormPost (g, n) (showF (g, n) x0) db w) := by
  obtain ⟨d, hd⟩ := hd
  obtain ⟨b, o, rfl, hc⟩ := hw 0 (by simp)
  have hc0 : w.cell? ⟨b, o, none⟩ = some (str x0) := hc
  have hbl : b < w.heap.size := World.block_lt_of_cell? w _ hc0
  have e0 : w.cell? ⟨db, 0, none⟩ = some (.int .i64 d.gk) := hd.blk.cell 0
  have e1 : w.cell? ⟨db, 1, none⟩ = some (.int .i64 d.ga) := hd.blk.cell 1
  have e2 : w.cell? ⟨db, 2, none⟩ = some (.int .i64 d.gb) := hd.blk.cell 2
  have e3 : w.cell? ⟨db, 3, none⟩ = some (.slice d.gao d.gn d.gc) := hd.blk.cell 3
  have hdl : db < w.heap.size := hd.blk.lt
  have HS := Lib.hid (fun (w' : World) (hb : Below w.heap.size w w') => (show (fun w' => w'.cell? ⟨db, 0, none⟩ = some (.int .i64 d.gk) ∧ w'.cell? ⟨db, 1, none⟩ = some (.int .i64 d.ga) ∧ w'.cell? ⟨db, 2, none⟩ = some (.int .i64 d.gb) ∧ w'.cell? ⟨db, 3, none⟩ = some (.slice d.gao d.gn d.gc) ∧ w'.cell? ⟨b, o, none⟩ = some (str x0)) w' from ⟨(hb.cell (by exact hdl)).trans e0, (hb.cell (by exact hdl)).trans e1, (hb.cell (by exact hdl)).trans e2, (hb.cell (by exact hdl)).trans e3, (hb.cell (by exact hbl)).trans hc0⟩))
  have HD := Lib.hid (And.intro hd hg)
  have HB0 := Lib.hid (show Below w.heap.size w w.drew from (Below.refl _ _).drew)
  have HN := Lib.hid (fun (wx : World) (hbx : Below w.heap.size w wx) => choices_any x0 hx0 wx (hg.on hbx))
  clear hd hg hw hc
  cases hv : tapeV x0 with
  | none =>
    have HV := Lib.hid hv
    clear hv
    go_enter Tryz.func55, Tryz.ntmps55
    go_wp2_with fail
    refine wp_region_held_drew (S := fun w' => w'.cell? ⟨db, 0, none⟩ = some (.int .i64 d.gk) ∧ w'.cell? ⟨db, 1, none⟩ = some (.int .i64 d.ga) ∧ w'.cell? ⟨db, 2, none⟩ = some (.int .i64 d.gb) ∧ w'.cell? ⟨db, 3, none⟩ = some (.slice d.gao d.gn d.gc) ∧ w'.cell? ⟨b, o, none⟩ = some (str x0)) (by kernel_rfl) ?hS0d (fun hHeld => ?_)
    case hS0d => exact HS.out _ HB0.out
    refine wpAnyH_take (i := 0) (v := ?vvd0) rfl (by kernel_rfl) (by kernel_rfl) (by kernel_rfl) (fun _ _ _ h => h) (Or.inl ⟨by rfl, ?hyd0⟩) (by assumption) ?restd0
    case hyd0 => ((intro w hSw; (try dsimp only at hSw); go_simp) <;> with_reducible rfl)
    try simp only [sA, sC, Act.put, sD, sE, sF]
    refine wpAnyH_take (i := 1) (v := ?vvd1) rfl (by kernel_rfl) (by kernel_rfl) (by kernel_rfl) (fun _ _ _ h => h) (Or.inl ⟨by rfl, ?hyd1⟩) (by assumption) ?restd1
    case hyd1 => ((intro w hSw; (try dsimp only at hSw); go_simp) <;> with_reducible rfl)
    try simp only [sA, sB, sC, Act.put, sD, sE, sF]
    refine wpAnyH_take (i := 2) (v := ?vvd2) rfl (by kernel_rfl) (by kernel_rfl) (by kernel_rfl) (fun _ _ _ h => h) (Or.inl ⟨by rfl, ?hyd2⟩) (by assumption) ?restd2
    case hyd2 => ((intro w hSw; (try dsimp only at hSw); go_simp) <;> with_reducible rfl)
    try simp only [sA, sB, sC, Act.put, sD, sE, sF]
    refine wpAnyH_take (i := 3) (v := ?vvd3) rfl (by kernel_rfl) (by kernel_rfl) (by kernel_rfl) (fun _ _ _ h => h) (Or.inl ⟨by rfl, ?hyd3⟩) (by assumption) ?restd3
    case hyd3 => ((intro w hSw; (try dsimp only at hSw); go_simp) <;> with_reducible rfl)
    try simp only [sA, sB, sC, Act.put, sD, sE, sF]
    refine wpAnyH_take (i := 4) (v := ?vvd4) rfl (by kernel_rfl) (by kernel_rfl) (by kernel_rfl) (fun _ _ _ h => h) (Or.inl ⟨by rfl, ?hyd4⟩) (by assumption) ?restd4
    case hyd4 => ((intro w hSw; (try dsimp only at hSw); go_simp) <;> with_reducible rfl)
    try simp only [sA, sB, sC, Act.put, sD, sE, sF]
    refine wpAnyH_take (i := 5) (v := ?vvd5) rfl (by kernel_rfl) (by kernel_rfl) (by kernel_rfl) (fun _ _ _ h => h) (Or.inl ⟨by rfl, ?hyd5⟩) (by assumption) ?restd5
    case hyd5 => ((intro w hSw; (try dsimp only at hSw); go_simp) <;> with_reducible rfl)
    try simp only [sA, sB, sC, Act.put, sD, sE, sF]
    refine wpAnyH_take (i := 6) (v := ?vvd6) rfl (by kernel_rfl) (by kernel_rfl) (by kernel_rfl) (fun _ _ _ h => h) (Or.inl ⟨by rfl, ?hyd6⟩) (by assumption) ?restd6
    case hyd6 => ((intro w hSw; (try dsimp only at hSw); go_simp) <;> with_reducible rfl)
    try simp only [sA, sB, sC, Act.put, sD, sE, sF]
    refine wpAnyH_ready (rs := [7]) (by kernel_rfl) (by simp) ?_
    refine AllReadyH.cons rfl (fun K hK => ?_) AllReadyH.nil
    go_simp
    go_at_call 59
    refine (HN.out _ HB0.out).mono ?_
    rintro e w1 ⟨hb1, hhow⟩
    have hp : e = panics 7 := by
      rcases hhow with ⟨l, uo, uc, h1, _⟩ | ⟨_, h2⟩
      · rw [HV.out] at h1
        cases h1
      · exact h2
    subst hp
    have hb := HB0.out.trans (hb1.mono HB0.out.size)
    go_simp
    exact body_panics (HD.out.1.idle hb (by unfold showF; rw [HV.out]))
  | some l =>
    have HV := Lib.hid hv
    clear hv
    cases hn : replay g l with
    | error c =>
      have HQ := Lib.hid hn
      clear hn
      go_enter Tryz.func55, Tryz.ntmps55
      go_wp2_with fail
      refine wp_region_held_drew (S := fun w' => w'.cell? ⟨db, 0, none⟩ = some (.int .i64 d.gk) ∧ w'.cell? ⟨db, 1, none⟩ = some (.int .i64 d.ga) ∧ w'.cell? ⟨db, 2, none⟩ = some (.int .i64 d.gb) ∧ w'.cell? ⟨db, 3, none⟩ = some (.slice d.gao d.gn d.gc) ∧ w'.cell? ⟨b, o, none⟩ = some (str x0)) (by kernel_rfl) ?hS0e (fun hHeld => ?_)
      case hS0e => exact HS.out _ HB0.out
      refine wpAnyH_take (i := 0) (v := ?vve0) rfl (by kernel_rfl) (by kernel_rfl) (by kernel_rfl) (fun _ _ _ h => h) (Or.inl ⟨by rfl, ?hye0⟩) (by assumption) ?reste0
      case hye0 => ((intro w hSw; (try dsimp only at hSw); go_simp) <;> with_reducible rfl)
      try simp only [sA, sC, Act.put, sD, sE, sF]
      refine wpAnyH_take (i := 1) (v := ?vve1) rfl (by kernel_rfl) (by kernel_rfl) (by kernel_rfl) (fun _ _ _ h => h) (Or.inl ⟨by rfl, ?hye1⟩) (by assumption) ?reste1
      case hye1 => ((intro w hSw; (try dsimp only at hSw); go_simp) <;> with_reducible rfl)
      try simp only [sA, sB, sC, Act.put, sD, sE, sF]
      refine wpAnyH_take (i := 2) (v := ?vve2) rfl (by kernel_rfl) (by kernel_rfl) (by kernel_rfl) (fun _ _ _ h => h) (Or.inl ⟨by rfl, ?hye2⟩) (by assumption) ?reste2
      case hye2 => ((intro w hSw; (try dsimp only at hSw); go_simp) <;> with_reducible rfl)
      try simp only [sA, sB, sC, Act.put, sD, sE, sF]
      refine wpAnyH_take (i := 3) (v := ?vve3) rfl (by kernel_rfl) (by kernel_rfl) (by kernel_rfl) (fun _ _ _ h => h) (Or.inl ⟨by rfl, ?hye3⟩) (by assumption) ?reste3
      case hye3 => ((intro w hSw; (try dsimp only at hSw); go_simp) <;> with_reducible rfl)
      try simp only [sA, sB, sC, Act.put, sD, sE, sF]
      refine wpAnyH_take (i := 4) (v := ?vve4) rfl (by kernel_rfl) (by kernel_rfl) (by kernel_rfl) (fun _ _ _ h => h) (Or.inl ⟨by rfl, ?hye4⟩) (by assumption) ?reste4
      case hye4 => ((intro w hSw; (try dsimp only at hSw); go_simp) <;> with_reducible rfl)
      try simp only [sA, sB, sC, Act.put, sD, sE, sF]
      refine wpAnyH_take (i := 5) (v := ?vve5) rfl (by kernel_rfl) (by kernel_rfl) (by kernel_rfl) (fun _ _ _ h => h) (Or.inl ⟨by rfl, ?hye5⟩) (by assumption) ?reste5
      case hye5 => ((intro w hSw; (try dsimp only at hSw); go_simp) <;> with_reducible rfl)
      try simp only [sA, sB, sC, Act.put, sD, sE, sF]
      refine wpAnyH_take (i := 6) (v := ?vve6) rfl (by kernel_rfl) (by kernel_rfl) (by kernel_rfl) (fun _ _ _ h => h) (Or.inl ⟨by rfl, ?hye6⟩) (by assumption) ?reste6
      case hye6 => ((intro w hSw; (try dsimp only at hSw); go_simp) <;> with_reducible rfl)
      try simp only [sA, sB, sC, Act.put, sD, sE, sF]
      refine wpAnyH_ready (rs := [7]) (by kernel_rfl) (by simp) ?_
      refine AllReadyH.cons rfl (fun K hK => ?_) AllReadyH.nil
      go_simp
      go_at_call 59
      refine (HN.out _ HB0.out).mono ?_
      rintro e w1 ⟨hb1, hhow⟩
      have hp : ∃ uo uc, e = .returned (.slice uo l.length uc) ∧ IntsAt .i64 w1 uo l ∧ l.length ≤ x0.length + 1 := by
        rcases hhow with ⟨l', uo, uc, h1, h2, h3, h4⟩ | ⟨h1, _⟩
        · rw [HV.out] at h1
          cases h1
          exact ⟨uo, uc, h2, h3, h4⟩
        · rw [HV.out] at h1
          cases h1
      obtain ⟨uo, uc, hp, hat, hll⟩ := hp
      subst hp
      have HB1 := Lib.hid (HB0.out.trans (hb1.mono HB0.out.size))
      have HAT := Lib.hid (And.intro hat (show l.length ≤ maxLen by unfold maxLen; omega))
      clear hb1 hhow hat hll
      refine hK.out _ _ ?hSe7 (fun hHeld => ?_)
      case hSe7 => exact HS.out _ HB1.out
      clear hK K
      try simp only [sA, sB, sC, Act.put, sD, sE, sF]
      refine wpAnyH_ready (rs := [8]) (by kernel_rfl) (by simp) ?_
      refine AllReadyH.cons rfl (fun K hK => ?_) AllReadyH.nil
      go_simp
      go_at_call 58
      refine (replay_any g d.gen HD.out.1.right l uo l.length uc rfl HAT.out.2 _ (HD.out.1.gen.on HB1.out) HAT.out.1).mono ?_
      rintro e w2 ⟨hb2, hhow⟩
      have HB2 := Lib.hid (HB1.out.trans (hb2.mono HB1.out.size))
      have hp : e = .returned (.tuple #[numV' 0, .iface 36 (.int .i64 c)]) := by
        rcases hhow with ⟨x, v, h1, h2, _⟩ | ⟨c', h1, h2⟩
        · rw [HQ.out] at h1
          cases h1
        · rw [HQ.out] at h1
          cases h1
          exact h2
      subst hp
      clear hb2 hhow
      refine hK.out _ _ ?hSe8 (fun hHeld => ?_)
      case hSe8 => exact HS.out _ HB2.out
      clear hK K
      try simp only [sA, sB, sC, Act.put, sD, sE, sF]
      refine wpAnyH_take (i := 9) (v := ?vve9) rfl (by kernel_rfl) (by kernel_rfl) (by kernel_rfl) (fun _ _ _ h => h) (Or.inl ⟨by rfl, ?hye9⟩) (by assumption) ?reste9
      case hye9 => ((intro w hSw; (try dsimp only at hSw); go_simp) <;> with_reducible rfl)
      try simp only [sA, sB, sC, Act.put, sD, sE, sF]
      refine wpAnyH_take (i := 10) (v := ?vve10) rfl (by kernel_rfl) (by kernel_rfl) (by kernel_rfl) (fun _ _ _ h => h) (Or.inl ⟨by rfl, ?hye10⟩) (by assumption) ?reste10
      case hye10 => ((intro w hSw; (try dsimp only at hSw); go_simp) <;> with_reducible rfl)
      try simp only [sA, sB, sC, Act.put, sD, sE, sF]
      refine wpAnyH_ready (rs := [11]) (by kernel_rfl) (by simp) ?_
      refine AllReadyH.cons rfl (fun K hK => ?_) AllReadyH.nil
      go_simp
      go_at_call 57
      refine (must_val_err false 0 none 0 0 c w2).mono ?_
      rintro e w3 ⟨rfl, hb3⟩
      go_simp
      exact body_panics (HD.out.1.idle (HB2.out.trans (hb3.mono HB2.out.size)) (by unfold showF; rw [HV.out]; simp only; rw [HQ.out]))
    | ok x =>
      have HQ := Lib.hid hn
      clear hn
      go_enter Tryz.func55, Tryz.ntmps55
      go_wp2_with fail
      refine wp_region_held_drew (S := fun w' => w'.cell? ⟨db, 0, none⟩ = some (.int .i64 d.gk) ∧ w'.cell? ⟨db, 1, none⟩ = some (.int .i64 d.ga) ∧ w'.cell? ⟨db, 2, none⟩ = some (.int .i64 d.gb) ∧ w'.cell? ⟨db, 3, none⟩ = some (.slice d.gao d.gn d.gc) ∧ w'.cell? ⟨b, o, none⟩ = some (str x0)) (by kernel_rfl) ?hS0f (fun hHeld => ?_)
      case hS0f => exact HS.out _ HB0.out
      refine wpAnyH_take (i := 0) (v := ?vvf0) rfl (by kernel_rfl) (by kernel_rfl) (by kernel_rfl) (fun _ _ _ h => h) (Or.inl ⟨by rfl, ?hyf0⟩) (by assumption) ?restf0
      case hyf0 => ((intro w hSw; (try dsimp only at hSw); go_simp) <;> with_reducible rfl)
      try simp only [sA, sC, Act.put, sD, sE, sF]
      refine wpAnyH_take (i := 1) (v := ?vvf1) rfl (by kernel_rfl) (by kernel_rfl) (by kernel_rfl) (fun _ _ _ h => h) (Or.inl ⟨by rfl, ?hyf1⟩) (by assumption) ?restf1
      case hyf1 => ((intro w hSw; (try dsimp only at hSw); go_simp) <;> with_reducible rfl)
      try simp only [sA, sB, sC, Act.put, sD, sE, sF]
      refine wpAnyH_take (i := 2) (v := ?vvf2) rfl (by kernel_rfl) (by kernel_rfl) (by kernel_rfl) (fun _ _ _ h => h) (Or.inl ⟨by rfl, ?hyf2⟩) (by assumption) ?restf2
      case hyf2 => ((intro w hSw; (try dsimp only at hSw); go_simp) <;> with_reducible rfl)
      try simp only [sA, sB, sC, Act.put, sD, sE, sF]
      refine wpAnyH_take (i := 3) (v := ?vvf3) rfl (by kernel_rfl) (by kernel_rfl) (by kernel_rfl) (fun _ _ _ h => h) (Or.inl ⟨by rfl, ?hyf3⟩) (by assumption) ?restf3
      case hyf3 => ((intro w hSw; (try dsimp only at hSw); go_simp) <;> with_reducible rfl)
      try simp only [sA, sB, sC, Act.put, sD, sE, sF]
      refine wpAnyH_take (i := 4) (v := ?vvf4) rfl (by kernel_rfl) (by kernel_rfl) (by kernel_rfl) (fun _ _ _ h => h) (Or.inl ⟨by rfl, ?hyf4⟩) (by assumption) ?restf4
      case hyf4 => ((intro w hSw; (try dsimp only at hSw); go_simp) <;> with_reducible rfl)
      try simp only [sA, sB, sC, Act.put, sD, sE, sF]
      refine wpAnyH_take (i := 5) (v := ?vvf5) rfl (by kernel_rfl) (by kernel_rfl) (by kernel_rfl) (fun _ _ _ h => h) (Or.inl ⟨by rfl, ?hyf5⟩) (by assumption) ?restf5
      case hyf5 => ((intro w hSw; (try dsimp only at hSw); go_simp) <;> with_reducible rfl)
      try simp only [sA, sB, sC, Act.put, sD, sE, sF]
      refine wpAnyH_take (i := 6) (v := ?vvf6) rfl (by kernel_rfl) (by kernel_rfl) (by kernel_rfl) (fun _ _ _ h => h) (Or.inl ⟨by rfl, ?hyf6⟩) (by assumption) ?restf6
      case hyf6 => ((intro w hSw; (try dsimp only at hSw); go_simp) <;> with_reducible rfl)
      try simp only [sA, sB, sC, Act.put, sD, sE, sF]
      refine wpAnyH_ready (rs := [7]) (by kernel_rfl) (by simp) ?_
      refine AllReadyH.cons rfl (fun K hK => ?_) AllReadyH.nil
      go_simp
      go_at_call 59
      refine (HN.out _ HB0.out).mono ?_
      rintro e w1 ⟨hb1, hhow⟩
      have hp : ∃ uo uc, e = .returned (.slice uo l.length uc) ∧ IntsAt .i64 w1 uo l ∧ l.length ≤ x0.length + 1 := by
        rcases hhow with ⟨l', uo, uc, h1, h2, h3, h4⟩ | ⟨h1, _⟩
        · rw [HV.out] at h1
          cases h1
          exact ⟨uo, uc, h2, h3, h4⟩
        · rw [HV.out] at h1
          cases h1
      obtain ⟨uo, uc, hp, hat, hll⟩ := hp
      subst hp
      have HB1 := Lib.hid (HB0.out.trans (hb1.mono HB0.out.size))
      have HAT := Lib.hid (And.intro hat (show l.length ≤ maxLen by unfold maxLen; omega))
      clear hb1 hhow hat hll
      refine hK.out _ _ ?hSf7 (fun hHeld => ?_)
      case hSf7 => exact HS.out _ HB1.out
      clear hK K
      try simp only [sA, sB, sC, Act.put, sD, sE, sF]
      refine wpAnyH_ready (rs := [8]) (by kernel_rfl) (by simp) ?_
      refine AllReadyH.cons rfl (fun K hK => ?_) AllReadyH.nil
      go_simp
      go_at_call 58
      refine (replay_any g d.gen HD.out.1.right l uo l.length uc rfl HAT.out.2 _ (HD.out.1.gen.on HB1.out) HAT.out.1).mono ?_
      rintro e w2 ⟨hb2, hhow⟩
      have HB2 := Lib.hid (HB1.out.trans (hb2.mono HB1.out.size))
      have hp : ∃ v, e = .returned (.tuple #[v, .nilIface]) ∧ ValAt w2 0 v x := by
        rcases hhow with ⟨x', v, h1, h2, h3⟩ | ⟨c', h1, h2⟩
        · rw [HQ.out] at h1
          cases h1
          exact ⟨v, h2, h3.mono (Nat.zero_le _)⟩
        · rw [HQ.out] at h1
          cases h1
      obtain ⟨v, hp, hval⟩ := hp
      obtain ⟨kk, zz, ao, vn, vc, hvs⟩ := hval.shape
      subst hvs
      subst hp
      have HVA := Lib.hid hval
      clear hb2 hhow hval
      refine hK.out _ _ ?hSf8 (fun hHeld => ?_)
      case hSf8 => exact HS.out _ HB2.out
      clear hK K
      try simp only [sA, sB, sC, Act.put, sD, sE, sF]
      refine wpAnyH_take (i := 9) (v := ?vvf9) rfl (by kernel_rfl) (by kernel_rfl) (by kernel_rfl) (fun _ _ _ h => h) (Or.inl ⟨by rfl, ?hyf9⟩) (by assumption) ?restf9
      case hyf9 => ((intro w hSw; (try dsimp only at hSw); go_simp) <;> with_reducible rfl)
      try simp only [sA, sB, sC, Act.put, sD, sE, sF]
      refine wpAnyH_take (i := 10) (v := ?vvf10) rfl (by kernel_rfl) (by kernel_rfl) (by kernel_rfl) (fun _ _ _ h => h) (Or.inl ⟨by rfl, ?hyf10⟩) (by assumption) ?restf10
      case hyf10 => ((intro w hSw; (try dsimp only at hSw); go_simp) <;> with_reducible rfl)
      try simp only [sA, sB, sC, Act.put, sD, sE, sF]
      refine wpAnyH_ready (rs := [11]) (by kernel_rfl) (by simp) ?_
      refine AllReadyH.cons rfl (fun K hK => ?_) AllReadyH.nil
      go_simp
      go_at_call 57
      refine (must_val kk zz ao vn vc w2).mono ?_
      rintro e w3 ⟨rfl, hb3⟩
      have HB3 := Lib.hid (HB2.out.trans (hb3.mono HB2.out.size))
      have HVB := Lib.hid (HVA.out.below hb3)
      clear hb3
      refine hK.out _ _ ?hSf11 (fun hHeld => ?_)
      case hSf11 => exact HS.out _ HB3.out
      clear hK K
      try simp only [sA, sB, sC, Act.put, sD, sE, sF]
      refine wpAnyH_ready (rs := [12]) (by kernel_rfl) (by simp) ?_
      refine AllReadyH.cons rfl (fun K hK => ?_) AllReadyH.nil
      go_simp
      go_at_call 56
      refine (vtext_ok x _ 0 w3 (HD.out.2.on HB3.out) HVB.out (replay_small HD.out.1.right HQ.out)).mono ?_
      rintro e w4 ⟨rfl, hb4⟩
      have HB4 := Lib.hid (HB3.out.trans (hb4.mono HB3.out.size))
      clear hb4
      refine hK.out _ _ ?hSf12 (fun hHeld => ?_)
      case hSf12 => exact HS.out _ HB4.out
      clear hK K
      try simp only [sA, sB, sC, Act.put, sD, sE, sF]
      refine wpAnyH_take (i := 13) (v := ?vvf13) rfl (by kernel_rfl) (by kernel_rfl) (by kernel_rfl) (fun _ _ _ h => h) (Or.inl ⟨by rfl, ?hyf13⟩) (by assumption) ?restf13
      case hyf13 => ((intro w hSw; (try dsimp only at hSw); go_simp) <;> with_reducible rfl)
      try simp only [sA, sB, sC, Act.put, sD, sE, sF]
      refine wpAnyH_done (by kernel_rfl) ?_ _
      go_wp2_with fail
      go_ret
      exact HD.out.1.says HB4.out (by unfold showF; rw [HV.out]; simp only; rw [HQ.out])
set_option maxRecDepth 100000 in
set_option maxHeartbeats 4000000 in
theorem form1_any (db : Nat) (g : G) (n : Int) (wo : Option Addr) (wc : Nat) (x0 x1 : Bytes) (hx0 : x0.length ≤ 1100000) (hx1 : x1.length ≤ 1100000) (w : World) (hg : Gl w) (hd : DeskAt w db g n) (hw : StrsAt w wo [x0, x1]) :
    Calls Tryz.prog 42 #[.pointer (some ⟨db, 0, none⟩), .slice wo 2 wc] w (FormPost (g, n) (intR (g, n) x0 x1) db w) := by
  obtain ⟨d, hd⟩ := hd
  obtain ⟨b, o, rfl, hc⟩ := hw 0 (by simp)
  have hc0 : w.cell? ⟨b, o, none⟩ = some (str x0) := hc
  have hc1 : w.cell? ⟨b, o + 1, none⟩ = some (str x1) := by
    obtain ⟨b', o', h1, h2⟩ := hw 1 (by simp)
    cases h1
    exact h2
  have hbl : b < w.heap.size := World.block_lt_of_cell? w _ hc0
  have HS := Lib.hid (fun (w' : World) (hb : Below w.heap.size w w') => (show (fun w' => w'.cell? ⟨b, o, none⟩ = some (str x0) ∧ w'.cell? ⟨b, o + 1, none⟩ = some (str x1)) w' from ⟨(hb.cell (by exact hbl)).trans hc0, (hb.cell (by exact hbl)).trans hc1⟩))
  have HD := Lib.hid (And.intro hd hg)
  have HB0 := Lib.hid (show Below w.heap.size w w.drew from (Below.refl _ _).drew)
  have HN0 := Lib.hid (fun (wx : World) (hbx : Below w.heap.size w wx) => number_any x0 (by omega) wx (hg.on hbx))
  have HN1 := Lib.hid (fun (wx : World) (hbx : Below w.heap.size w wx) => number_any x1 (by omega) wx (hg.on hbx))
  clear hd hg hw hc
  cases hv : wordV x0 with
  | none =>
    have HV0 := Lib.hid hv
    clear hv
    go_enter Tryz.func42, Tryz.ntmps42
    go_wp2_with fail
    refine wp_region_held_drew (S := fun w' => w'.cell? ⟨b, o, none⟩ = some (str x0) ∧ w'.cell? ⟨b, o + 1, none⟩ = some (str x1)) (by kernel_rfl) ?hS0g (fun hHeld => ?_)
    case hS0g => exact HS.out _ HB0.out
    refine wpAnyH_take (i := 0) (v := ?vvg0) rfl (by kernel_rfl) (by kernel_rfl) (by kernel_rfl) (fun _ _ _ h => h) (Or.inl ⟨by rfl, ?hyg0⟩) (by assumption) ?restg0
    case hyg0 => ((intro w hSw; (try dsimp only at hSw); go_simp) <;> with_reducible rfl)
    try simp only [sA, sC, Act.put, sD, sE, sF]
    refine wpAnyH_take (i := 1) (v := ?vvg1) rfl (by kernel_rfl) (by kernel_rfl) (by kernel_rfl) (fun _ _ _ h => h) (Or.inl ⟨by rfl, ?hyg1⟩) (by assumption) ?restg1
    case hyg1 => ((intro w hSw; (try dsimp only at hSw); go_simp) <;> with_reducible rfl)
    try simp only [sA, sB, sC, Act.put, sD, sE, sF]
    refine wpAnyH_take (i := 2) (v := ?vvg2) rfl (by kernel_rfl) (by kernel_rfl) (by kernel_rfl) (fun _ _ _ h => h) (Or.inl ⟨by rfl, ?hyg2⟩) (by assumption) ?restg2
    case hyg2 => ((intro w hSw; (try dsimp only at hSw); go_simp) <;> with_reducible rfl)
    try simp only [sA, sB, sC, Act.put, sD, sE, sF]
    refine wpAnyH_take (i := 4) (v := ?vvg4) rfl (by kernel_rfl) (by kernel_rfl) (by kernel_rfl) (fun _ _ _ h => h) (Or.inl ⟨by rfl, ?hyg4⟩) (by assumption) ?restg4
    case hyg4 => ((intro w hSw; (try dsimp only at hSw); go_simp) <;> with_reducible rfl)
    try simp only [sA, sB, sC, Act.put, sD, sE, sF]
    refine wpAnyH_take (i := 5) (v := ?vvg5) rfl (by kernel_rfl) (by kernel_rfl) (by kernel_rfl) (fun _ _ _ h => h) (Or.inl ⟨by rfl, ?hyg5⟩) (by assumption) ?restg5
    case hyg5 => ((intro w hSw; (try dsimp only at hSw); go_simp) <;> with_reducible rfl)
    try simp only [sA, sB, sC, Act.put, sD, sE, sF]
    refine wpAnyH_take (i := 6) (v := ?vvg6) rfl (by kernel_rfl) (by kernel_rfl) (by kernel_rfl) (fun _ _ _ h => h) (Or.inl ⟨by rfl, ?hyg6⟩) (by assumption) ?restg6
    case hyg6 => ((intro w hSw; (try dsimp only at hSw); go_simp) <;> with_reducible rfl)
    try simp only [sA, sB, sC, Act.put, sD, sE, sF]
    refine wpAnyH_ready (rs := [3]) (by kernel_rfl) (by simp) ?_
    refine AllReadyH.cons rfl (fun K hK => ?_) AllReadyH.nil
    go_simp
    go_at_call 43
    refine (HN0.out _ HB0.out).mono ?_
    rintro e w1 ⟨he, hb1⟩
    have hp := he.err (numX_none HV0.out)
    subst hp
    have hb := HB0.out.trans (hb1.mono HB0.out.size)
    go_simp
    exact body_panics (HD.out.1.idle hb (by simp [intR, HV0.out]))
  | some xa =>
    have HV0 := Lib.hid (wordV_near hv)
    have HV0n := HV0
    have HV0 := Lib.hid hv
    clear hv
    cases hv : wordV x1 with
    | none =>
      have HV1 := Lib.hid hv
      clear hv
      go_enter Tryz.func42, Tryz.ntmps42
      go_wp2_with fail
      refine wp_region_held_drew (S := fun w' => w'.cell? ⟨b, o, none⟩ = some (str x0) ∧ w'.cell? ⟨b, o + 1, none⟩ = some (str x1)) (by kernel_rfl) ?hS0h (fun hHeld => ?_)
      case hS0h => exact HS.out _ HB0.out
      refine wpAnyH_take (i := 0) (v := ?vvh0) rfl (by kernel_rfl) (by kernel_rfl) (by kernel_rfl) (fun _ _ _ h => h) (Or.inl ⟨by rfl, ?hyh0⟩) (by assumption) ?resth0
      case hyh0 => ((intro w hSw; (try dsimp only at hSw); go_simp) <;> with_reducible rfl)
      try simp only [sA, sC, Act.put, sD, sE, sF]
      refine wpAnyH_take (i := 1) (v := ?vvh1) rfl (by kernel_rfl) (by kernel_rfl) (by kernel_rfl) (fun _ _ _ h => h) (Or.inl ⟨by rfl, ?hyh1⟩) (by assumption) ?resth1
      case hyh1 => ((intro w hSw; (try dsimp only at hSw); go_simp) <;> with_reducible rfl)
      try simp only [sA, sB, sC, Act.put, sD, sE, sF]
      refine wpAnyH_take (i := 2) (v := ?vvh2) rfl (by kernel_rfl) (by kernel_rfl) (by kernel_rfl) (fun _ _ _ h => h) (Or.inl ⟨by rfl, ?hyh2⟩) (by assumption) ?resth2
      case hyh2 => ((intro w hSw; (try dsimp only at hSw); go_simp) <;> with_reducible rfl)
      try simp only [sA, sB, sC, Act.put, sD, sE, sF]
      refine wpAnyH_take (i := 4) (v := ?vvh4) rfl (by kernel_rfl) (by kernel_rfl) (by kernel_rfl) (fun _ _ _ h => h) (Or.inl ⟨by rfl, ?hyh4⟩) (by assumption) ?resth4
      case hyh4 => ((intro w hSw; (try dsimp only at hSw); go_simp) <;> with_reducible rfl)
      try simp only [sA, sB, sC, Act.put, sD, sE, sF]
      refine wpAnyH_take (i := 5) (v := ?vvh5) rfl (by kernel_rfl) (by kernel_rfl) (by kernel_rfl) (fun _ _ _ h => h) (Or.inl ⟨by rfl, ?hyh5⟩) (by assumption) ?resth5
      case hyh5 => ((intro w hSw; (try dsimp only at hSw); go_simp) <;> with_reducible rfl)
      try simp only [sA, sB, sC, Act.put, sD, sE, sF]
      refine wpAnyH_take (i := 6) (v := ?vvh6) rfl (by kernel_rfl) (by kernel_rfl) (by kernel_rfl) (fun _ _ _ h => h) (Or.inl ⟨by rfl, ?hyh6⟩) (by assumption) ?resth6
      case hyh6 => ((intro w hSw; (try dsimp only at hSw); go_simp) <;> with_reducible rfl)
      try simp only [sA, sB, sC, Act.put, sD, sE, sF]
      refine wpAnyH_ready (rs := [3]) (by kernel_rfl) (by simp) ?_
      refine AllReadyH.cons rfl (fun K hK => ?_) AllReadyH.nil
      go_simp
      go_at_call 43
      refine (HN0.out _ HB0.out).mono ?_
      rintro e w1 ⟨he, hb1⟩
      have hp := he.ok (numX_some HV0.out)
      subst hp
      have HB1 := Lib.hid (HB0.out.trans (hb1.mono HB0.out.size))
      clear he hb1
      refine hK.out _ _ ?hSh3 (fun hHeld => ?_)
      case hSh3 => exact HS.out _ HB1.out
      clear hK K
      try simp only [sA, sB, sC, Act.put, sD, sE, sF]
      refine wpAnyH_ready (rs := [7]) (by kernel_rfl) (by simp) ?_
      refine AllReadyH.cons rfl (fun K hK => ?_) AllReadyH.nil
      go_simp
      go_at_call 43
      refine (HN1.out _ HB1.out).mono ?_
      rintro e w2 ⟨he, hb1⟩
      have hp := he.err (numX_none HV1.out)
      subst hp
      have hb := HB1.out.trans (hb1.mono HB1.out.size)
      go_simp
      exact body_panics (HD.out.1.idle hb (by simp [intR, HV0.out, HV1.out]))
    | some xb =>
      have HV1 := Lib.hid (wordV_near hv)
      have HV1n := HV1
      have HV1 := Lib.hid hv
      clear hv
      rw [show intR (g, n) x0 x1 = setR (g, n) (.int xa xb) by simp [intR, HV0.out, HV1.out]]
      go_enter Tryz.func42, Tryz.ntmps42
      go_wp2_with fail
      refine wp_region_held_drew (S := fun w' => w'.cell? ⟨b, o, none⟩ = some (str x0) ∧ w'.cell? ⟨b, o + 1, none⟩ = some (str x1)) (by kernel_rfl) ?hS0i (fun hHeld => ?_)
      case hS0i => exact HS.out _ HB0.out
      refine wpAnyH_take (i := 0) (v := ?vvi0) rfl (by kernel_rfl) (by kernel_rfl) (by kernel_rfl) (fun _ _ _ h => h) (Or.inl ⟨by rfl, ?hyi0⟩) (by assumption) ?resti0
      case hyi0 => ((intro w hSw; (try dsimp only at hSw); go_simp) <;> with_reducible rfl)
      try simp only [sA, sC, Act.put, sD, sE, sF]
      refine wpAnyH_take (i := 1) (v := ?vvi1) rfl (by kernel_rfl) (by kernel_rfl) (by kernel_rfl) (fun _ _ _ h => h) (Or.inl ⟨by rfl, ?hyi1⟩) (by assumption) ?resti1
      case hyi1 => ((intro w hSw; (try dsimp only at hSw); go_simp) <;> with_reducible rfl)
      try simp only [sA, sB, sC, Act.put, sD, sE, sF]
      refine wpAnyH_take (i := 2) (v := ?vvi2) rfl (by kernel_rfl) (by kernel_rfl) (by kernel_rfl) (fun _ _ _ h => h) (Or.inl ⟨by rfl, ?hyi2⟩) (by assumption) ?resti2
      case hyi2 => ((intro w hSw; (try dsimp only at hSw); go_simp) <;> with_reducible rfl)
      try simp only [sA, sB, sC, Act.put, sD, sE, sF]
      refine wpAnyH_take (i := 4) (v := ?vvi4) rfl (by kernel_rfl) (by kernel_rfl) (by kernel_rfl) (fun _ _ _ h => h) (Or.inl ⟨by rfl, ?hyi4⟩) (by assumption) ?resti4
      case hyi4 => ((intro w hSw; (try dsimp only at hSw); go_simp) <;> with_reducible rfl)
      try simp only [sA, sB, sC, Act.put, sD, sE, sF]
      refine wpAnyH_take (i := 5) (v := ?vvi5) rfl (by kernel_rfl) (by kernel_rfl) (by kernel_rfl) (fun _ _ _ h => h) (Or.inl ⟨by rfl, ?hyi5⟩) (by assumption) ?resti5
      case hyi5 => ((intro w hSw; (try dsimp only at hSw); go_simp) <;> with_reducible rfl)
      try simp only [sA, sB, sC, Act.put, sD, sE, sF]
      refine wpAnyH_take (i := 6) (v := ?vvi6) rfl (by kernel_rfl) (by kernel_rfl) (by kernel_rfl) (fun _ _ _ h => h) (Or.inl ⟨by rfl, ?hyi6⟩) (by assumption) ?resti6
      case hyi6 => ((intro w hSw; (try dsimp only at hSw); go_simp) <;> with_reducible rfl)
      try simp only [sA, sB, sC, Act.put, sD, sE, sF]
      refine wpAnyH_ready (rs := [3]) (by kernel_rfl) (by simp) ?_
      refine AllReadyH.cons rfl (fun K hK => ?_) AllReadyH.nil
      go_simp
      go_at_call 43
      refine (HN0.out _ HB0.out).mono ?_
      rintro e w1 ⟨he, hb1⟩
      have hp := he.ok (numX_some HV0.out)
      subst hp
      have HB1 := Lib.hid (HB0.out.trans (hb1.mono HB0.out.size))
      clear he hb1
      refine hK.out _ _ ?hSi3 (fun hHeld => ?_)
      case hSi3 => exact HS.out _ HB1.out
      clear hK K
      try simp only [sA, sB, sC, Act.put, sD, sE, sF]
      refine wpAnyH_ready (rs := [7]) (by kernel_rfl) (by simp) ?_
      refine AllReadyH.cons rfl (fun K hK => ?_) AllReadyH.nil
      go_simp
      go_at_call 43
      refine (HN1.out _ HB1.out).mono ?_
      rintro e w2 ⟨he, hb1⟩
      have hp := he.ok (numX_some HV1.out)
      subst hp
      have HB2 := Lib.hid (HB1.out.trans (hb1.mono HB1.out.size))
      clear he hb1
      refine hK.out _ _ ?hSi7 (fun hHeld => ?_)
      case hSi7 => exact HS.out _ HB2.out
      clear hK K
      try simp only [sA, sB, sC, Act.put, sD, sE, sF]
      refine wpAnyH_take (i := 8) (v := ?vvi8) rfl (by kernel_rfl) (by kernel_rfl) (by kernel_rfl) (fun _ _ _ h => h) (Or.inl ⟨by rfl, ?hyi8⟩) (by assumption) ?resti8
      case hyi8 => ((intro w hSw; (try dsimp only at hSw); go_simp) <;> with_reducible rfl)
      try simp only [sA, sB, sC, Act.put, sD, sE, sF]
      refine wpAnyH_take (i := 9) (v := ?vvi9) rfl (by kernel_rfl) (by kernel_rfl) (by kernel_rfl) (fun _ _ _ h => h) (Or.inl ⟨by rfl, ?hyi9⟩) (by assumption) ?resti9
      case hyi9 => ((intro w hSw; (try dsimp only at hSw); go_simp) <;> with_reducible rfl)
      try simp only [sA, sB, sC, Act.put, sD, sE, sF]
      refine wpAnyH_done (by kernel_rfl) ?_ _
      have HST := Lib.hid (dset_any db d g n (.int xa xb) (intG xa xb) ⟨HV0n.out, HV1n.out⟩ w2 (HD.out.1.on HB2.out) rfl)
      go_wp2_with fail
      refine HST.out.mono ?_
      clear HST
      rintro e w3 ⟨ht, hhow⟩
      have HT := Lib.hid ht
      clear ht
      rcases hhow with ⟨out, st', hr, rfl, hd'⟩ | ⟨c, hr, rfl, hd'⟩
      · have HR := Lib.hid (And.intro hr hd')
        clear hr hd'
        go_wp2_with fail
        go_ret
        exact FormPost.after HB2.out ⟨HT.out, .inl ⟨out, st', HR.out.1, rfl, HR.out.2⟩⟩
      · have HR := Lib.hid (And.intro hr hd')
        clear hr hd'
        go_simp
        exact body_panics (FormPost.after HB2.out ⟨HT.out, .inr ⟨c, HR.out.1, rfl, HR.out.2⟩⟩)
set_option maxRecDepth 100000 in
set_option maxHeartbeats 4000000 in
theorem form2_any (db : Nat) (g : G) (n : Int) (wo : Option Addr) (wc : Nat) (x0 x1 x2 : Bytes) (hx0 : x0.length ≤ 1100000) (hx1 : x1.length ≤ 1100000) (hx2 : x2.length ≤ 1100000) (w : World) (hg : Gl w) (hd : DeskAt w db g n) (hw : StrsAt w wo [x0, x1, x2]) :
    Calls Tryz.prog 45 #[.pointer (some ⟨db, 0, none⟩), .slice wo 3 wc] w (FormPost (g, n) (manyR (g, n) x0 x1 x2) db w) := by
  obtain ⟨d, hd⟩ := hd
  obtain ⟨b, o, rfl, hc⟩ := hw 0 (by simp)
  have hc0 : w.cell? ⟨b, o, none⟩ = some (str x0) := hc
  have hc1 : w.cell? ⟨b, o + 1, none⟩ = some (str x1) := by
    obtain ⟨b', o', h1, h2⟩ := hw 1 (by simp)
    cases h1
    exact h2
  have hc2 : w.cell? ⟨b, o + 2, none⟩ = some (str x2) := by
    obtain ⟨b', o', h1, h2⟩ := hw 2 (by simp)
    cases h1
    exact h2
  have hbl : b < w.heap.size := World.block_lt_of_cell? w _ hc0
  have HS := Lib.hid (fun (w' : World) (hb : Below w.heap.size w w') => (show (fun w' => w'.cell? ⟨b, o, none⟩ = some (str x0) ∧ w'.cell? ⟨b, o + 1, none⟩ = some (str x1) ∧ w'.cell? ⟨b, o + 2, none⟩ = some (str x2)) w' from ⟨(hb.cell (by exact hbl)).trans hc0, (hb.cell (by exact hbl)).trans hc1, (hb.cell (by exact hbl)).trans hc2⟩))
  have HD := Lib.hid (And.intro hd hg)
  have HB0 := Lib.hid (show Below w.heap.size w w.drew from (Below.refl _ _).drew)
  have HN0 := Lib.hid (fun (wx : World) (hbx : Below w.heap.size w wx) => number_any x0 (by omega) wx (hg.on hbx))
  have HN1 := Lib.hid (fun (wx : World) (hbx : Below w.heap.size w wx) => number_any x1 (by omega) wx (hg.on hbx))
  have HN2 := Lib.hid (fun (wx : World) (hbx : Below w.heap.size w wx) => number_any x2 (by omega) wx (hg.on hbx))
  clear hd hg hw hc
  cases hv : wordV x0 with
  | none =>
    have HV0 := Lib.hid hv
    clear hv
    go_enter Tryz.func45, Tryz.ntmps45
    go_wp2_with fail
    refine wp_region_held_drew (S := fun w' => w'.cell? ⟨b, o, none⟩ = some (str x0) ∧ w'.cell? ⟨b, o + 1, none⟩ = some (str x1) ∧ w'.cell? ⟨b, o + 2, none⟩ = some (str x2)) (by kernel_rfl) ?hS0j (fun hHeld => ?_)
    case hS0j => exact HS.out _ HB0.out
    refine wpAnyH_take (i := 0) (v := ?vvj0) rfl (by kernel_rfl) (by kernel_rfl) (by kernel_rfl) (fun _ _ _ h => h) (Or.inl ⟨by rfl, ?hyj0⟩) (by assumption) ?restj0
    case hyj0 => ((intro w hSw; (try dsimp only at hSw); go_simp) <;> with_reducible rfl)
    try simp only [sA, sC, Act.put, sD, sE, sF]
    refine wpAnyH_take (i := 1) (v := ?vvj1) rfl (by kernel_rfl) (by kernel_rfl) (by kernel_rfl) (fun _ _ _ h => h) (Or.inl ⟨by rfl, ?hyj1⟩) (by assumption) ?restj1
    case hyj1 => ((intro w hSw; (try dsimp only at hSw); go_simp) <;> with_reducible rfl)
    try simp only [sA, sB, sC, Act.put, sD, sE, sF]
    refine wpAnyH_take (i := 2) (v := ?vvj2) rfl (by kernel_rfl) (by kernel_rfl) (by kernel_rfl) (fun _ _ _ h => h) (Or.inl ⟨by rfl, ?hyj2⟩) (by assumption) ?restj2
    case hyj2 => ((intro w hSw; (try dsimp only at hSw); go_simp) <;> with_reducible rfl)
    try simp only [sA, sB, sC, Act.put, sD, sE, sF]
    refine wpAnyH_take (i := 4) (v := ?vvj4) rfl (by kernel_rfl) (by kernel_rfl) (by kernel_rfl) (fun _ _ _ h => h) (Or.inl ⟨by rfl, ?hyj4⟩) (by assumption) ?restj4
    case hyj4 => ((intro w hSw; (try dsimp only at hSw); go_simp) <;> with_reducible rfl)
    try simp only [sA, sB, sC, Act.put, sD, sE, sF]
    refine wpAnyH_take (i := 5) (v := ?vvj5) rfl (by kernel_rfl) (by kernel_rfl) (by kernel_rfl) (fun _ _ _ h => h) (Or.inl ⟨by rfl, ?hyj5⟩) (by assumption) ?restj5
    case hyj5 => ((intro w hSw; (try dsimp only at hSw); go_simp) <;> with_reducible rfl)
    try simp only [sA, sB, sC, Act.put, sD, sE, sF]
    refine wpAnyH_take (i := 6) (v := ?vvj6) rfl (by kernel_rfl) (by kernel_rfl) (by kernel_rfl) (fun _ _ _ h => h) (Or.inl ⟨by rfl, ?hyj6⟩) (by assumption) ?restj6
    case hyj6 => ((intro w hSw; (try dsimp only at hSw); go_simp) <;> with_reducible rfl)
    try simp only [sA, sB, sC, Act.put, sD, sE, sF]
    refine wpAnyH_take (i := 8) (v := ?vvj8) rfl (by kernel_rfl) (by kernel_rfl) (by kernel_rfl) (fun _ _ _ h => h) (Or.inl ⟨by rfl, ?hyj8⟩) (by assumption) ?restj8
    case hyj8 => ((intro w hSw; (try dsimp only at hSw); go_simp) <;> with_reducible rfl)
    try simp only [sA, sB, sC, Act.put, sD, sE, sF]
    refine wpAnyH_take (i := 9) (v := ?vvj9) rfl (by kernel_rfl) (by kernel_rfl) (by kernel_rfl) (fun _ _ _ h => h) (Or.inl ⟨by rfl, ?hyj9⟩) (by assumption) ?restj9
    case hyj9 => ((intro w hSw; (try dsimp only at hSw); go_simp) <;> with_reducible rfl)
    try simp only [sA, sB, sC, Act.put, sD, sE, sF]
    refine wpAnyH_take (i := 10) (v := ?vvj10) rfl (by kernel_rfl) (by kernel_rfl) (by kernel_rfl) (fun _ _ _ h => h) (Or.inl ⟨by rfl, ?hyj10⟩) (by assumption) ?restj10
    case hyj10 => ((intro w hSw; (try dsimp only at hSw); go_simp) <;> with_reducible rfl)
    try simp only [sA, sB, sC, Act.put, sD, sE, sF]
    refine wpAnyH_ready (rs := [3]) (by kernel_rfl) (by simp) ?_
    refine AllReadyH.cons rfl (fun K hK => ?_) AllReadyH.nil
    go_simp
    go_at_call 43
    refine (HN0.out _ HB0.out).mono ?_
    rintro e w1 ⟨he, hb1⟩
    have hp := he.err (numX_none HV0.out)
    subst hp
    have hb := HB0.out.trans (hb1.mono HB0.out.size)
    go_simp
    exact body_panics (HD.out.1.idle hb (by simp [manyR, HV0.out]))
  | some xa =>
    have HV0 := Lib.hid (wordV_near hv)
    have HV0n := HV0
    have HV0 := Lib.hid hv
    clear hv
    cases hv : wordV x1 with
    | none =>
      have HV1 := Lib.hid hv
      clear hv
      go_enter Tryz.func45, Tryz.ntmps45
      go_wp2_with fail
      refine wp_region_held_drew (S := fun w' => w'.cell? ⟨b, o, none⟩ = some (str x0) ∧ w'.cell? ⟨b, o + 1, none⟩ = some (str x1) ∧ w'.cell? ⟨b, o + 2, none⟩ = some (str x2)) (by kernel_rfl) ?hS0k (fun hHeld => ?_)
      case hS0k => exact HS.out _ HB0.out
      refine wpAnyH_take (i := 0) (v := ?vvk0) rfl (by kernel_rfl) (by kernel_rfl) (by kernel_rfl) (fun _ _ _ h => h) (Or.inl ⟨by rfl, ?hyk0⟩) (by assumption) ?restk0
      case hyk0 => ((intro w hSw; (try dsimp only at hSw); go_simp) <;> with_reducible rfl)
      try simp only [sA, sC, Act.put, sD, sE, sF]
      refine wpAnyH_take (i := 1) (v := ?vvk1) rfl (by kernel_rfl) (by kernel_rfl) (by kernel_rfl) (fun _ _ _ h => h) (Or.inl ⟨by rfl, ?hyk1⟩) (by assumption) ?restk1
      case hyk1 => ((intro w hSw; (try dsimp only at hSw); go_simp) <;> with_reducible rfl)
      try simp only [sA, sB, sC, Act.put, sD, sE, sF]
      refine wpAnyH_take (i := 2) (v := ?vvk2) rfl (by kernel_rfl) (by kernel_rfl) (by kernel_rfl) (fun _ _ _ h => h) (Or.inl ⟨by rfl, ?hyk2⟩) (by assumption) ?restk2
      case hyk2 => ((intro w hSw; (try dsimp only at hSw); go_simp) <;> with_reducible rfl)
      try simp only [sA, sB, sC, Act.put, sD, sE, sF]
      refine wpAnyH_take (i := 4) (v := ?vvk4) rfl (by kernel_rfl) (by kernel_rfl) (by kernel_rfl) (fun _ _ _ h => h) (Or.inl ⟨by rfl, ?hyk4⟩) (by assumption) ?restk4
      case hyk4 => ((intro w hSw; (try dsimp only at hSw); go_simp) <;> with_reducible rfl)
      try simp only [sA, sB, sC, Act.put, sD, sE, sF]
      refine wpAnyH_take (i := 5) (v := ?vvk5) rfl (by kernel_rfl) (by kernel_rfl) (by kernel_rfl) (fun _ _ _ h => h) (Or.inl ⟨by rfl, ?hyk5⟩) (by assumption) ?restk5
      case hyk5 => ((intro w hSw; (try dsimp only at hSw); go_simp) <;> with_reducible rfl)
      try simp only [sA, sB, sC, Act.put, sD, sE, sF]
      refine wpAnyH_take (i := 6) (v := ?vvk6) rfl (by kernel_rfl) (by kernel_rfl) (by kernel_rfl) (fun _ _ _ h => h) (Or.inl ⟨by rfl, ?hyk6⟩) (by assumption) ?restk6
      case hyk6 => ((intro w hSw; (try dsimp only at hSw); go_simp) <;> with_reducible rfl)
      try simp only [sA, sB, sC, Act.put, sD, sE, sF]
      refine wpAnyH_take (i := 8) (v := ?vvk8) rfl (by kernel_rfl) (by kernel_rfl) (by kernel_rfl) (fun _ _ _ h => h) (Or.inl ⟨by rfl, ?hyk8⟩) (by assumption) ?restk8
      case hyk8 => ((intro w hSw; (try dsimp only at hSw); go_simp) <;> with_reducible rfl)
      try simp only [sA, sB, sC, Act.put, sD, sE, sF]
      refine wpAnyH_take (i := 9) (v := ?vvk9) rfl (by kernel_rfl) (by kernel_rfl) (by kernel_rfl) (fun _ _ _ h => h) (Or.inl ⟨by rfl, ?hyk9⟩) (by assumption) ?restk9
      case hyk9 => ((intro w hSw; (try dsimp only at hSw); go_simp) <;> with_reducible rfl)
      try simp only [sA, sB, sC, Act.put, sD, sE, sF]
      refine wpAnyH_take (i := 10) (v := ?vvk10) rfl (by kernel_rfl) (by kernel_rfl) (by kernel_rfl) (fun _ _ _ h => h) (Or.inl ⟨by rfl, ?hyk10⟩) (by assumption) ?restk10
      case hyk10 => ((intro w hSw; (try dsimp only at hSw); go_simp) <;> with_reducible rfl)
      try simp only [sA, sB, sC, Act.put, sD, sE, sF]
      refine wpAnyH_ready (rs := [3]) (by kernel_rfl) (by simp) ?_
      refine AllReadyH.cons rfl (fun K hK => ?_) AllReadyH.nil
      go_simp
      go_at_call 43
      refine (HN0.out _ HB0.out).mono ?_
      rintro e w1 ⟨he, hb1⟩
      have hp := he.ok (numX_some HV0.out)
      subst hp
      have HB1 := Lib.hid (HB0.out.trans (hb1.mono HB0.out.size))
      clear he hb1
      refine hK.out _ _ ?hSk3 (fun hHeld => ?_)
      case hSk3 => exact HS.out _ HB1.out
      clear hK K
      try simp only [sA, sB, sC, Act.put, sD, sE, sF]
      refine wpAnyH_ready (rs := [7]) (by kernel_rfl) (by simp) ?_
      refine AllReadyH.cons rfl (fun K hK => ?_) AllReadyH.nil
      go_simp
      go_at_call 43
      refine (HN1.out _ HB1.out).mono ?_
      rintro e w2 ⟨he, hb1⟩
      have hp := he.err (numX_none HV1.out)
      subst hp
      have hb := HB1.out.trans (hb1.mono HB1.out.size)
      go_simp
      exact body_panics (HD.out.1.idle hb (by simp [manyR, HV0.out, HV1.out]))
    | some xb =>
      have HV1 := Lib.hid (wordV_near hv)
      have HV1n := HV1
      have HV1 := Lib.hid hv
      clear hv
      cases hv : wordV x2 with
      | none =>
        have HV2 := Lib.hid hv
        clear hv
        go_enter Tryz.func45, Tryz.ntmps45
        go_wp2_with fail
        refine wp_region_held_drew (S := fun w' => w'.cell? ⟨b, o, none⟩ = some (str x0) ∧ w'.cell? ⟨b, o + 1, none⟩ = some (str x1) ∧ w'.cell? ⟨b, o + 2, none⟩ = some (str x2)) (by kernel_rfl) ?hS0l (fun hHeld => ?_)
        case hS0l => exact HS.out _ HB0.out
        refine wpAnyH_take (i := 0) (v := ?vvl0) rfl (by kernel_rfl) (by kernel_rfl) (by kernel_rfl) (fun _ _ _ h => h) (Or.inl ⟨by rfl, ?hyl0⟩) (by assumption) ?restl0
        case hyl0 => ((intro w hSw; (try dsimp only at hSw); go_simp) <;> with_reducible rfl)
        try simp only [sA, sC, Act.put, sD, sE, sF]
        refine wpAnyH_take (i := 1) (v := ?vvl1) rfl (by kernel_rfl) (by kernel_rfl) (by kernel_rfl) (fun _ _ _ h => h) (Or.inl ⟨by rfl, ?hyl1⟩) (by assumption) ?restl1
        case hyl1 => ((intro w hSw; (try dsimp only at hSw); go_simp) <;> with_reducible rfl)
        try simp only [sA, sB, sC, Act.put, sD, sE, sF]
        refine wpAnyH_take (i := 2) (v := ?vvl2) rfl (by kernel_rfl) (by kernel_rfl) (by kernel_rfl) (fun _ _ _ h => h) (Or.inl ⟨by rfl, ?hyl2⟩) (by assumption) ?restl2
        case hyl2 => ((intro w hSw; (try dsimp only at hSw); go_simp) <;> with_reducible rfl)
        try simp only [sA, sB, sC, Act.put, sD, sE, sF]
        refine wpAnyH_take (i := 4) (v := ?vvl4) rfl (by kernel_rfl) (by kernel_rfl) (by kernel_rfl) (fun _ _ _ h => h) (Or.inl ⟨by rfl, ?hyl4⟩) (by assumption) ?restl4
        case hyl4 => ((intro w hSw; (try dsimp only at hSw); go_simp) <;> with_reducible rfl)
        try simp only [sA, sB, sC, Act.put, sD, sE, sF]
        refine wpAnyH_take (i := 5) (v := ?vvl5) rfl (by kernel_rfl) (by kernel_rfl) (by kernel_rfl) (fun _ _ _ h => h) (Or.inl ⟨by rfl, ?hyl5⟩) (by assumption) ?restl5
        case hyl5 => ((intro w hSw; (try dsimp only at hSw); go_simp) <;> with_reducible rfl)
        try simp only [sA, sB, sC, Act.put, sD, sE, sF]
        refine wpAnyH_take (i := 6) (v := ?vvl6) rfl (by kernel_rfl) (by kernel_rfl) (by kernel_rfl) (fun _ _ _ h => h) (Or.inl ⟨by rfl, ?hyl6⟩) (by assumption) ?restl6
        case hyl6 => ((intro w hSw; (try dsimp only at hSw); go_simp) <;> with_reducible rfl)
        try simp only [sA, sB, sC, Act.put, sD, sE, sF]
        refine wpAnyH_take (i := 8) (v := ?vvl8) rfl (by kernel_rfl) (by kernel_rfl) (by kernel_rfl) (fun _ _ _ h => h) (Or.inl ⟨by rfl, ?hyl8⟩) (by assumption) ?restl8
        case hyl8 => ((intro w hSw; (try dsimp only at hSw); go_simp) <;> with_reducible rfl)
        try simp only [sA, sB, sC, Act.put, sD, sE, sF]
        refine wpAnyH_take (i := 9) (v := ?vvl9) rfl (by kernel_rfl) (by kernel_rfl) (by kernel_rfl) (fun _ _ _ h => h) (Or.inl ⟨by rfl, ?hyl9⟩) (by assumption) ?restl9
        case hyl9 => ((intro w hSw; (try dsimp only at hSw); go_simp) <;> with_reducible rfl)
        try simp only [sA, sB, sC, Act.put, sD, sE, sF]
        refine wpAnyH_take (i := 10) (v := ?vvl10) rfl (by kernel_rfl) (by kernel_rfl) (by kernel_rfl) (fun _ _ _ h => h) (Or.inl ⟨by rfl, ?hyl10⟩) (by assumption) ?restl10
        case hyl10 => ((intro w hSw; (try dsimp only at hSw); go_simp) <;> with_reducible rfl)
        try simp only [sA, sB, sC, Act.put, sD, sE, sF]
        refine wpAnyH_ready (rs := [3]) (by kernel_rfl) (by simp) ?_
        refine AllReadyH.cons rfl (fun K hK => ?_) AllReadyH.nil
        go_simp
        go_at_call 43
        refine (HN0.out _ HB0.out).mono ?_
        rintro e w1 ⟨he, hb1⟩
        have hp := he.ok (numX_some HV0.out)
        subst hp
        have HB1 := Lib.hid (HB0.out.trans (hb1.mono HB0.out.size))
        clear he hb1
        refine hK.out _ _ ?hSl3 (fun hHeld => ?_)
        case hSl3 => exact HS.out _ HB1.out
        clear hK K
        try simp only [sA, sB, sC, Act.put, sD, sE, sF]
        refine wpAnyH_ready (rs := [7]) (by kernel_rfl) (by simp) ?_
        refine AllReadyH.cons rfl (fun K hK => ?_) AllReadyH.nil
        go_simp
        go_at_call 43
        refine (HN1.out _ HB1.out).mono ?_
        rintro e w2 ⟨he, hb1⟩
        have hp := he.ok (numX_some HV1.out)
        subst hp
        have HB2 := Lib.hid (HB1.out.trans (hb1.mono HB1.out.size))
        clear he hb1
        refine hK.out _ _ ?hSl7 (fun hHeld => ?_)
        case hSl7 => exact HS.out _ HB2.out
        clear hK K
        try simp only [sA, sB, sC, Act.put, sD, sE, sF]
        refine wpAnyH_ready (rs := [11]) (by kernel_rfl) (by simp) ?_
        refine AllReadyH.cons rfl (fun K hK => ?_) AllReadyH.nil
        go_simp
        go_at_call 43
        refine (HN2.out _ HB2.out).mono ?_
        rintro e w3 ⟨he, hb1⟩
        have hp := he.err (numX_none HV2.out)
        subst hp
        have hb := HB2.out.trans (hb1.mono HB2.out.size)
        go_simp
        exact body_panics (HD.out.1.idle hb (by simp [manyR, HV0.out, HV1.out, HV2.out]))
      | some xn =>
        have HV2 := Lib.hid (wordV_near hv)
        have HV2n := HV2
        have HV2 := Lib.hid hv
        clear hv
        rw [show manyR (g, n) x0 x1 x2 = setR (g, n) (.many xn xa xb) by simp [manyR, HV0.out, HV1.out, HV2.out]]
        go_enter Tryz.func45, Tryz.ntmps45
        go_wp2_with fail
        refine wp_region_held_drew (S := fun w' => w'.cell? ⟨b, o, none⟩ = some (str x0) ∧ w'.cell? ⟨b, o + 1, none⟩ = some (str x1) ∧ w'.cell? ⟨b, o + 2, none⟩ = some (str x2)) (by kernel_rfl) ?hS0m (fun hHeld => ?_)
        case hS0m => exact HS.out _ HB0.out
        refine wpAnyH_take (i := 0) (v := ?vvm0) rfl (by kernel_rfl) (by kernel_rfl) (by kernel_rfl) (fun _ _ _ h => h) (Or.inl ⟨by rfl, ?hym0⟩) (by assumption) ?restm0
        case hym0 => ((intro w hSw; (try dsimp only at hSw); go_simp) <;> with_reducible rfl)
        try simp only [sA, sC, Act.put, sD, sE, sF]
        refine wpAnyH_take (i := 1) (v := ?vvm1) rfl (by kernel_rfl) (by kernel_rfl) (by kernel_rfl) (fun _ _ _ h => h) (Or.inl ⟨by rfl, ?hym1⟩) (by assumption) ?restm1
        case hym1 => ((intro w hSw; (try dsimp only at hSw); go_simp) <;> with_reducible rfl)
        try simp only [sA, sB, sC, Act.put, sD, sE, sF]
        refine wpAnyH_take (i := 2) (v := ?vvm2) rfl (by kernel_rfl) (by kernel_rfl) (by kernel_rfl) (fun _ _ _ h => h) (Or.inl ⟨by rfl, ?hym2⟩) (by assumption) ?restm2
        case hym2 => ((intro w hSw; (try dsimp only at hSw); go_simp) <;> with_reducible rfl)
        try simp only [sA, sB, sC, Act.put, sD, sE, sF]
        refine wpAnyH_take (i := 4) (v := ?vvm4) rfl (by kernel_rfl) (by kernel_rfl) (by kernel_rfl) (fun _ _ _ h => h) (Or.inl ⟨by rfl, ?hym4⟩) (by assumption) ?restm4
        case hym4 => ((intro w hSw; (try dsimp only at hSw); go_simp) <;> with_reducible rfl)
        try simp only [sA, sB, sC, Act.put, sD, sE, sF]
        refine wpAnyH_take (i := 5) (v := ?vvm5) rfl (by kernel_rfl) (by kernel_rfl) (by kernel_rfl) (fun _ _ _ h => h) (Or.inl ⟨by rfl, ?hym5⟩) (by assumption) ?restm5
        case hym5 => ((intro w hSw; (try dsimp only at hSw); go_simp) <;> with_reducible rfl)
        try simp only [sA, sB, sC, Act.put, sD, sE, sF]
        refine wpAnyH_take (i := 6) (v := ?vvm6) rfl (by kernel_rfl) (by kernel_rfl) (by kernel_rfl) (fun _ _ _ h => h) (Or.inl ⟨by rfl, ?hym6⟩) (by assumption) ?restm6
        case hym6 => ((intro w hSw; (try dsimp only at hSw); go_simp) <;> with_reducible rfl)
        try simp only [sA, sB, sC, Act.put, sD, sE, sF]
        refine wpAnyH_take (i := 8) (v := ?vvm8) rfl (by kernel_rfl) (by kernel_rfl) (by kernel_rfl) (fun _ _ _ h => h) (Or.inl ⟨by rfl, ?hym8⟩) (by assumption) ?restm8
        case hym8 => ((intro w hSw; (try dsimp only at hSw); go_simp) <;> with_reducible rfl)
        try simp only [sA, sB, sC, Act.put, sD, sE, sF]
        refine wpAnyH_take (i := 9) (v := ?vvm9) rfl (by kernel_rfl) (by kernel_rfl) (by kernel_rfl) (fun _ _ _ h => h) (Or.inl ⟨by rfl, ?hym9⟩) (by assumption) ?restm9
        case hym9 => ((intro w hSw; (try dsimp only at hSw); go_simp) <;> with_reducible rfl)
        try simp only [sA, sB, sC, Act.put, sD, sE, sF]
        refine wpAnyH_take (i := 10) (v := ?vvm10) rfl (by kernel_rfl) (by kernel_rfl) (by kernel_rfl) (fun _ _ _ h => h) (Or.inl ⟨by rfl, ?hym10⟩) (by assumption) ?restm10
        case hym10 => ((intro w hSw; (try dsimp only at hSw); go_simp) <;> with_reducible rfl)
        try simp only [sA, sB, sC, Act.put, sD, sE, sF]
        refine wpAnyH_ready (rs := [3]) (by kernel_rfl) (by simp) ?_
        refine AllReadyH.cons rfl (fun K hK => ?_) AllReadyH.nil
        go_simp
        go_at_call 43
        refine (HN0.out _ HB0.out).mono ?_
        rintro e w1 ⟨he, hb1⟩
        have hp := he.ok (numX_some HV0.out)
        subst hp
        have HB1 := Lib.hid (HB0.out.trans (hb1.mono HB0.out.size))
        clear he hb1
        refine hK.out _ _ ?hSm3 (fun hHeld => ?_)
        case hSm3 => exact HS.out _ HB1.out
        clear hK K
        try simp only [sA, sB, sC, Act.put, sD, sE, sF]
        refine wpAnyH_ready (rs := [7]) (by kernel_rfl) (by simp) ?_
        refine AllReadyH.cons rfl (fun K hK => ?_) AllReadyH.nil
        go_simp
        go_at_call 43
        refine (HN1.out _ HB1.out).mono ?_
        rintro e w2 ⟨he, hb1⟩
        have hp := he.ok (numX_some HV1.out)
        subst hp
        have HB2 := Lib.hid (HB1.out.trans (hb1.mono HB1.out.size))
        clear he hb1
        refine hK.out _ _ ?hSm7 (fun hHeld => ?_)
        case hSm7 => exact HS.out _ HB2.out
        clear hK K
        try simp only [sA, sB, sC, Act.put, sD, sE, sF]
        refine wpAnyH_ready (rs := [11]) (by kernel_rfl) (by simp) ?_
        refine AllReadyH.cons rfl (fun K hK => ?_) AllReadyH.nil
        go_simp
        go_at_call 43
        refine (HN2.out _ HB2.out).mono ?_
        rintro e w3 ⟨he, hb1⟩
        have hp := he.ok (numX_some HV2.out)
        subst hp
        have HB3 := Lib.hid (HB2.out.trans (hb1.mono HB2.out.size))
        clear he hb1
        refine hK.out _ _ ?hSm11 (fun hHeld => ?_)
        case hSm11 => exact HS.out _ HB3.out
        clear hK K
        try simp only [sA, sB, sC, Act.put, sD, sE, sF]
        refine wpAnyH_take (i := 12) (v := ?vvm12) rfl (by kernel_rfl) (by kernel_rfl) (by kernel_rfl) (fun _ _ _ h => h) (Or.inl ⟨by rfl, ?hym12⟩) (by assumption) ?restm12
        case hym12 => ((intro w hSw; (try dsimp only at hSw); go_simp) <;> with_reducible rfl)
        try simp only [sA, sB, sC, Act.put, sD, sE, sF]
        refine wpAnyH_take (i := 13) (v := ?vvm13) rfl (by kernel_rfl) (by kernel_rfl) (by kernel_rfl) (fun _ _ _ h => h) (Or.inl ⟨by rfl, ?hym13⟩) (by assumption) ?restm13
        case hym13 => ((intro w hSw; (try dsimp only at hSw); go_simp) <;> with_reducible rfl)
        try simp only [sA, sB, sC, Act.put, sD, sE, sF]
        refine wpAnyH_take (i := 14) (v := ?vvm14) rfl (by kernel_rfl) (by kernel_rfl) (by kernel_rfl) (fun _ _ _ h => h) (Or.inl ⟨by rfl, ?hym14⟩) (by assumption) ?restm14
        case hym14 => ((intro w hSw; (try dsimp only at hSw); go_simp) <;> with_reducible rfl)
        try simp only [sA, sB, sC, Act.put, sD, sE, sF]
        refine wpAnyH_done (by kernel_rfl) ?_ _
        have hsub : SubAt (w3.alloc (.cells #[.int .i64 2, .int .i64 xa, .int .i64 xb, .slice none 0 0] 28)) w3.heap.size xa xb := heap_alloc_new _ _
        have hb34 : Below w3.heap.size w3 (w3.alloc (.cells #[.int .i64 2, .int .i64 xa, .int .i64 xb, .slice none 0 0] 28)) := (Below.refl _ _).alloc (Nat.le_refl _) _
        have HB4 := Lib.hid (HB3.out.trans (hb34.mono HB3.out.size))
        have HST := Lib.hid (dset_any db d g n (.many xn xa xb) (manyG xn w3.heap.size) ⟨HV2n.out, HV0n.out, HV1n.out⟩ _ (HD.out.1.on HB4.out) ⟨_, rfl, hsub⟩)
        clear hsub hb34
        go_wp2_with fail
        refine HST.out.mono ?_
        clear HST
        rintro e w5 ⟨ht, hhow⟩
        have HT := Lib.hid ht
        clear ht
        rcases hhow with ⟨out, st', hr, rfl, hd'⟩ | ⟨c, hr, rfl, hd'⟩
        · have HR := Lib.hid (And.intro hr hd')
          clear hr hd'
          go_wp2_with fail
          go_ret
          exact FormPost.after HB4.out ⟨HT.out, .inl ⟨out, st', HR.out.1, rfl, HR.out.2⟩⟩
        · have HR := Lib.hid (And.intro hr hd')
          clear hr hd'
          go_simp
          exact body_panics (FormPost.after HB4.out ⟨HT.out, .inr ⟨c, HR.out.1, rfl, HR.out.2⟩⟩)
end Go.Proofs.YtalbllijahiiiaaGreatDoor
