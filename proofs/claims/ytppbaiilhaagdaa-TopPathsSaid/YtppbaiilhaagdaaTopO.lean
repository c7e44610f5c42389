/- assayertop.onWay: is an edge on a way from 0 to the last node? No conditions beyond what Check tells. -/
import Derived.Test.YtppbaiilhaagdaaPath7
import Derived.Test.YtppbaiilhaagdaaPathO
import Derived.StillTailTactics
import Derived.BigQuiet
namespace Go.Proofs.Ytppbaiilhaagdaa
open Go.RowKit Go.Mine Go.Mine.Path Go.Mine.Flow Go.Deep

/-- What lies there. -/
def OW (n xb fb tb : Nat) (a b : Nat) (F T : Nat → Bool) (w : World) : Prop :=
  w.cell? ⟨xb, 0, none⟩ = some (.int .i64 (a : Int)) ∧ w.cell? ⟨xb, 1, none⟩ = some (.int .i64 (b : Int)) ∧ w.rowIs fb 4 n (fun v => .bool (F v)) ∧ w.rowIs tb 4 n (fun v => .bool (T v))
theorem OW.drew {n xb fb tb a b : Nat} {F T : Nat → Bool} {w : World} (h : OW n xb fb tb a b F T w) : OW n xb fb tb a b F T w.drew := h
theorem OW.setF {n xb fb tb a b : Nat} {F T : Nat → Bool} {w : World} (h : OW n xb fb tb a b F T w) (h1 : xb ≠ fb) (h2 : tb ≠ fb) (v : Nat) (c : Bool) : OW n xb fb tb a b (upd F v c) T (w.setCell ⟨fb, v, none⟩ (.bool c)) :=
  ⟨keep_set h.1 (Ne.symm h1), keep_set h.2.1 (Ne.symm h1), (h.2.2.1.set v (.bool c)).congr (fun j _ => by unfold upd; split <;> rfl), h.2.2.2.setOther h2 _⟩
theorem OW.setT {n xb fb tb a b : Nat} {F T : Nat → Bool} {w : World} (h : OW n xb fb tb a b F T w) (h1 : xb ≠ tb) (h2 : fb ≠ tb) (v : Nat) (c : Bool) : OW n xb fb tb a b F (upd T v c) (w.setCell ⟨tb, v, none⟩ (.bool c)) :=
  ⟨keep_set h.1 (Ne.symm h1), keep_set h.2.1 (Ne.symm h1), h.2.2.1.setOther h2 _, (h.2.2.2.set v (.bool c)).congr (fun j _ => by unfold upd; split <;> rfl)⟩

set_option maxHeartbeats 2000000 in
set_option maxRecDepth 100000 in
theorem onWay_any (n : Nat) (es : List (Int × Int)) (lo : Option Addr) (lc : Nat) (a b : Nat) (W : World) (hx : PairsAt W lo es) (hok : ok n es) (ha : a < n) (hbn : b < n) (hgd : ∀ i, Path.Good (natE es) i) :
    Calls Try.prog 8 #[.int .i64 n, .slice lo es.length lc, .agg #[.int .i64 a, .int .i64 b]] W fun e w' => ∃ r, e = .returned (.bool r) ∧ (r = true ↔ Rch (natE es) 0 a ∧ Rch (natE es) b (n - 1)) ∧ Below W.heap.size W w' := by
  have hn1 : 1 ≤ n := by have := hok.1; omega
  have hn2 : n ≤ 12 := by have := hok.2.1; omega
  have hel : es.length ≤ 30 := hok.2.2.1
  have HOK := Lib.hid hok
  have HGD := Lib.hid hgd
  have HX := Lib.hid (show ∀ w, Below W.heap.size W w → PairsAt w lo es from fun w hb => hx.below (Nat.le_refl _) hb)
  have hmk := run_make_row' (P := Try.prog) 28 4 (.bool false) 1 Try.underlying28 infoBool rfl .i64 .i64 n (by omega) (by omega)
  obtain ⟨w0, hw0⟩ : ∃ w0, W.alloc (.cells #[.int .i64 (a : Int), .int .i64 (b : Int)] 32) = w0 := ⟨_, rfl⟩
  obtain ⟨w1, hw1⟩ : ∃ w1, w0.alloc (.cells (madeCells #[Value.bool false] n) 4) = w1 := ⟨_, rfl⟩
  obtain ⟨w2, hw2⟩ : ∃ w2, w1.alloc (.cells (madeCells #[Value.bool false] n) 4) = w2 := ⟨_, rfl⟩
  have hs0 : w0.heap.size = W.heap.size + 1 := by rw [← hw0]; simp
  have hs1 : w1.heap.size = w0.heap.size + 1 := by rw [← hw1]; simp
  have hb2 : Below W.heap.size W w2 := by rw [← hw2, ← hw1, ← hw0]; exact (((Below.refl _ _).alloc (Nat.le_refl _) _).alloc (by simp) _).alloc (by simp; omega) _
  have how : OW n W.heap.size w0.heap.size w1.heap.size a b (fun _ => false) (fun _ => false) w2 := by
    refine ⟨?_, ?_, ?_, ?_⟩
    · rw [← hw2, ← hw1]; refine keep_alloc (keep_alloc ?_ _) _; rw [← hw0]; exact at_fst _ _ _ _ _ rfl
    · rw [← hw2, ← hw1]; refine keep_alloc (keep_alloc ?_ _) _; rw [← hw0]; exact at_snd _ _ _ _ _ rfl
    · rw [← hw2]; refine World.rowIs.alloc ?_ _; rw [← hw1]; exact made_at _ _ _ _ _ rfl
    · rw [← hw2]; exact made_at _ _ _ _ _ rfl
  obtain ⟨fb, hfb⟩ : ∃ fb, w0.heap.size = fb := ⟨_, rfl⟩
  obtain ⟨tb, htb⟩ : ∃ tb, w1.heap.size = tb := ⟨_, rfl⟩
  rw [hfb, htb] at how
  have hfar : W.heap.size < fb ∧ fb < tb := by omega
  obtain ⟨z, hz⟩ : ∃ z, z = n - 1 := ⟨_, rfl⟩
  have hwz : IntKind.i64.wrap ((n : Int) - 1) = (z : Int) := by rw [show (n : Int) - 1 = (z : Int) by omega]; exact IntWalk.i64_in _ (by omega)
  have c0 : w2.cell? ⟨fb, 0, none⟩ = some (.bool false) := how.2.2.1.cell (by omega)
  have f0 : w2.frozen? ⟨fb, 0, none⟩ = false := how.2.2.1.frozen 0
  have l0 : fb < w2.heap.size := how.2.2.1.lt
  have how3 := how.setF (show W.heap.size ≠ fb by omega) (show tb ≠ fb by omega) 0 true
  have hb3 : Below W.heap.size W (w2.setCell ⟨fb, 0, none⟩ (.bool true)) := hb2.setCell (by show W.heap.size ≤ fb; omega) _
  obtain ⟨w3, hw3⟩ : ∃ w3, w2.setCell ⟨fb, 0, none⟩ (.bool true) = w3 := ⟨_, rfl⟩
  rw [hw3] at how3 hb3
  have c1 : w3.cell? ⟨tb, z, none⟩ = some (.bool false) := how3.2.2.2.cell (by omega)
  have f1 : w3.frozen? ⟨tb, z, none⟩ = false := how3.2.2.2.frozen z
  have l1 : tb < w3.heap.size := how3.2.2.2.lt
  have how4 := how3.setT (show W.heap.size ≠ tb by omega) (show fb ≠ tb by omega) z true
  have hb4 : Below W.heap.size W (w3.setCell ⟨tb, z, none⟩ (.bool true)) := hb3.setCell (by show W.heap.size ≤ tb; omega) _
  obtain ⟨w4, hw4⟩ : ∃ w4, w3.setCell ⟨tb, z, none⟩ (.bool true) = w4 := ⟨_, rfl⟩
  rw [hw4] at how4 hb4
  have HST := Lib.hid (And.intro (Rounds.start (natE es) n) (And.intro how4 hb4))
  rw [hz.symm] at HST
  have HFAR := Lib.hid (And.intro hfar hz)
  have hz1 : (z : Int) < (n : Int) := by omega
  have hz0 : (0 : Int) ≤ (z : Int) := by omega
  have hn0 : (0 : Int) < (n : Int) := by omega
  clear how how3 how4 hb2 hb3 hb4 hs0 hs1 hfar hz hx hok hgd
  go_enter Try.func8, Try.ntmps8
  go_wp2_with fail
  clear hmk hw0 hw1 hw2 hw3 hw4 c0 f0 l0 c1 f1 l1 hz1 hz0 hn0 hwz hfb htb
  go_loopw [9] (fun rv wr => ∃ (r : Nat) (F T : Nat → Bool), rv = .int .i64 (r : Int) ∧ r ≤ n ∧ RowKit.Hid (Rounds (natE es) n r F T) ∧ RowKit.Hid (OW n W.heap.size fb tb a b F T wr) ∧ RowKit.Hid (Below W.heap.size W wr)) (fun rv _ => n - (intOf rv).toNat)
  case atStart => exact ⟨0, _, _, rfl, by omega, Lib.hid HST.out.1, Lib.hid HST.out.2.1, Lib.hid HST.out.2.2⟩
  clear HST
  case round =>
    obtain ⟨r, F0, T0, rfl, hr, hrd, hw, hb⟩ := hrel
    have HRD := Lib.hid hrd.out
    have HW := Lib.hid hw.out
    have HB := Lib.hid hb.out
    clear hrd hw hb
    by_cases hrn : r < n
    · go_wp2_with fail
      go_loopw [10] (fun iv wr => ∃ (k : Nat) (F T : Nat → Bool), iv = .int .i64 (k : Int) ∧ k ≤ es.length ∧ RowKit.Hid (Mids (natE es) n k F0 T0 F T) ∧ RowKit.Hid (OW n W.heap.size fb tb a b F T wr) ∧ RowKit.Hid (Below W.heap.size W wr)) (fun iv _ => es.length - (intOf iv).toNat)
      case atStart => exact ⟨0, F0, T0, rfl, by omega, Lib.hid HRD.out.mid, HW, HB⟩
      clear HW HB
      case round =>
        obtain ⟨k, F, T, rfl, hk, hm, hw, hb⟩ := hrel
        have HM := Lib.hid hm.out
        have HW := Lib.hid hw.out
        have HB := Lib.hid hb.out
        clear hm hw hb
        by_cases hlt : k < es.length
        · obtain ⟨eb, o, rfl, hc1, hc2⟩ := HX.out _ HB.out k hlt
          have hmem : es.getD k (0, 0) ∈ es := by simp [hlt]
          have hq := HOK.out.2.2.2 _ hmem
          obtain ⟨u, hu⟩ : ∃ u : Nat, (es.getD k (0, 0)).1 = u := ⟨(es.getD k (0, 0)).1.toNat, by omega⟩
          obtain ⟨v, hv⟩ : ∃ v : Nat, (es.getD k (0, 0)).2 = v := ⟨(es.getD k (0, 0)).2.toNat, by omega⟩
          rw [hu] at hc1
          rw [hv] at hc2
          have hun : u < n := by omega
          have hvn : v < n := by omega
          have hek : (natE es)[k]? = some (u, v) := by
            unfold natE
            have e : es.getD k (0, 0) = es[k] := by simp [hlt]
            rw [e] at hu hv
            rw [List.getElem?_map, List.getElem?_eq_getElem hlt]
            simp [hu, hv]
          have HN := Lib.hid (HM.out.step hek)
          have HUV := Lib.hid (And.intro hu hv)
          obtain ⟨c1, hc1e⟩ : ∃ c, c = F v := ⟨_, rfl⟩
          obtain ⟨c2, hc2e⟩ : ∃ c, c = F u := ⟨_, rfl⟩
          obtain ⟨c3, hc3e⟩ : ∃ c, c = T u := ⟨_, rfl⟩
          obtain ⟨c4, hc4e⟩ : ∃ c, c = T v := ⟨_, rfl⟩
          have d1 : wr.cell? ⟨fb, v, none⟩ = some (.bool c1) := by rw [hc1e]; exact HW.out.2.2.1.cell hvn
          have d2 : wr.cell? ⟨fb, u, none⟩ = some (.bool c2) := by rw [hc2e]; exact HW.out.2.2.1.cell hun
          have f1 : wr.frozen? ⟨fb, v, none⟩ = false := HW.out.2.2.1.frozen v
          have l1 : fb < wr.heap.size := HW.out.2.2.1.lt
          have hu1 : (u : Int) < (n : Int) := by omega
          have hv1 : (v : Int) < (n : Int) := by omega
          have hu0 : (0 : Int) ≤ (u : Int) := by omega
          have hv0 : (0 : Int) ≤ (v : Int) := by omega
          have HC := Lib.hid (And.intro hc1e (And.intro hc2e (And.intro hc3e hc4e)))
          clear hu hv hmem hq hc1e hc2e hc3e hc4e hek
          cases c1
          · go_upto_region 11 with fail
            refine wp_region_still_tail 25 (by kernel_rfl) (by kernel_rfl) ?_
            simp only [List.take_succ_cons, List.take_zero, List.drop_succ_cons, List.drop_zero]
            repeat (with_reducible refine wpStill_step (fun K hK => ?_); go_simp; with_reducible refine hK _ ?_; clear hK K)
            with_reducible refine wpStill_nil ?_
            change wpList _ _ _ _ _ wr.drew
            have e1 : wr.drew.cell? ⟨fb, v, none⟩ = some (.bool false) := d1
            have e2 : wr.drew.frozen? ⟨fb, v, none⟩ = false := f1
            have e3 := HW.out.drew.setF (show W.heap.size ≠ fb by have := HFAR.out.1; omega) (show tb ≠ fb by have := HFAR.out.1; omega) v (false || c2)
            have e4 := (Below.drew HB.out).setCell (p := ⟨fb, v, none⟩) (show W.heap.size ≤ fb by have := HFAR.out.1; omega) (.bool (false || c2))
            rw [show (false || c2) = c2 by rfl] at e3 e4
            have E3 := Lib.hid (And.intro e3 e4)
            clear e3 e4
            generalize wr.drew = wd at e1 e2 E3 ⊢
            clear d1 d2 f1 l1 hc1 hc2
            go_upto_region 12 with fail
            generalize wd.setCell ⟨fb, v, none⟩ _ = wx at E3 ⊢
            clear e1 e2
            obtain ⟨eb', o', hebo, hc1, hc2⟩ := HX.out _ E3.out.2 k hlt
            cases hebo
            rw [HUV.out.1] at hc1
            rw [HUV.out.2] at hc2
            have HW2 := Lib.hid E3.out.1
            have HB2 := Lib.hid E3.out.2
            have HCC := Lib.hid (show upd F v (F v || F u) = upd F v c2 by rw [← HC.out.1, ← HC.out.2.1]; rfl)
            clear E3
            have d3 : wx.cell? ⟨tb, u, none⟩ = some (.bool c3) := by rw [HC.out.2.2.1]; exact HW2.out.2.2.2.cell hun
            have d4 : wx.cell? ⟨tb, v, none⟩ = some (.bool c4) := by rw [HC.out.2.2.2]; exact HW2.out.2.2.2.cell hvn
            have f3 : wx.frozen? ⟨tb, u, none⟩ = false := HW2.out.2.2.2.frozen u
            have l3 : tb < wx.heap.size := HW2.out.2.2.2.lt
            cases c3
            · go_upto_region 12 with fail
              refine wp_region_still_tail 25 (by kernel_rfl) (by kernel_rfl) ?_
              simp only [List.take_succ_cons, List.take_zero, List.drop_succ_cons, List.drop_zero]
              repeat (with_reducible refine wpStill_step (fun K hK => ?_); go_simp; with_reducible refine hK _ ?_; clear hK K)
              with_reducible refine wpStill_nil ?_
              change wpList _ _ _ _ _ wx.drew
              have e1 : wx.drew.cell? ⟨tb, u, none⟩ = some (.bool false) := d3
              have e2 : wx.drew.frozen? ⟨tb, u, none⟩ = false := f3
              have e3 := HW2.out.drew.setT (show W.heap.size ≠ tb by have := HFAR.out.1; omega) (show fb ≠ tb by have := HFAR.out.1; omega) u (false || c4)
              have e4 := (Below.drew HB2.out).setCell (p := ⟨tb, u, none⟩) (show W.heap.size ≤ tb by have := HFAR.out.1; omega) (.bool (false || c4))
              rw [show (false || c4) = c4 by rfl] at e3 e4
              have E3 := Lib.hid (And.intro e3 e4)
              have HCD := Lib.hid (show upd T u (T u || T v) = upd T u c4 by rw [← HC.out.2.2.1, ← HC.out.2.2.2]; rfl)
              clear e3 e4
              generalize wx.drew = wd2 at e1 e2 E3 ⊢
              clear d3 d4 f3 l3 hc1 hc2
              go_wp2_with fail
              go_roundw
              case rel => exact ⟨k + 1, _, _, by go_num, by omega, HN, by rw [HCC.out, HCD.out]; exact Lib.hid E3.out.1, Lib.hid E3.out.2⟩
              case measure => simp [intOf]; omega
            · go_upto_region 12 with fail
              refine wp_region_still_tail 25 (by kernel_rfl) (by kernel_rfl) ?_
              simp only [List.take_succ_cons, List.take_zero, List.drop_succ_cons, List.drop_zero]
              repeat (with_reducible refine wpStill_step (fun K hK => ?_); go_simp; with_reducible refine hK _ ?_; clear hK K)
              with_reducible refine wpStill_nil ?_
              change wpList _ _ _ _ _ wx.drew
              have e1 : wx.drew.cell? ⟨tb, u, none⟩ = some (.bool true) := d3
              have e2 : wx.drew.frozen? ⟨tb, u, none⟩ = false := f3
              have e3 := HW2.out.drew.setT (show W.heap.size ≠ tb by have := HFAR.out.1; omega) (show fb ≠ tb by have := HFAR.out.1; omega) u (true || c4)
              have e4 := (Below.drew HB2.out).setCell (p := ⟨tb, u, none⟩) (show W.heap.size ≤ tb by have := HFAR.out.1; omega) (.bool (true || c4))
              rw [show (true || c4) = true by rfl] at e3 e4
              have E3 := Lib.hid (And.intro e3 e4)
              have HCD := Lib.hid (show upd T u (T u || T v) = upd T u true by rw [← HC.out.2.2.1, ← HC.out.2.2.2]; rfl)
              clear e3 e4
              generalize wx.drew = wd2 at e1 e2 E3 ⊢
              clear d3 d4 f3 l3 hc1 hc2
              go_wp2_with fail
              go_roundw
              case rel => exact ⟨k + 1, _, _, by go_num, by omega, HN, by rw [HCC.out, HCD.out]; exact Lib.hid E3.out.1, Lib.hid E3.out.2⟩
              case measure => simp [intOf]; omega
          · go_upto_region 11 with fail
            refine wp_region_still_tail 25 (by kernel_rfl) (by kernel_rfl) ?_
            simp only [List.take_succ_cons, List.take_zero, List.drop_succ_cons, List.drop_zero]
            repeat (with_reducible refine wpStill_step (fun K hK => ?_); go_simp; with_reducible refine hK _ ?_; clear hK K)
            with_reducible refine wpStill_nil ?_
            change wpList _ _ _ _ _ wr.drew
            have e1 : wr.drew.cell? ⟨fb, v, none⟩ = some (.bool true) := d1
            have e2 : wr.drew.frozen? ⟨fb, v, none⟩ = false := f1
            have e3 := HW.out.drew.setF (show W.heap.size ≠ fb by have := HFAR.out.1; omega) (show tb ≠ fb by have := HFAR.out.1; omega) v (true || c2)
            have e4 := (Below.drew HB.out).setCell (p := ⟨fb, v, none⟩) (show W.heap.size ≤ fb by have := HFAR.out.1; omega) (.bool (true || c2))
            rw [show (true || c2) = true by rfl] at e3 e4
            have E3 := Lib.hid (And.intro e3 e4)
            clear e3 e4
            generalize wr.drew = wd at e1 e2 E3 ⊢
            clear d1 d2 f1 l1 hc1 hc2
            go_upto_region 12 with fail
            generalize wd.setCell ⟨fb, v, none⟩ _ = wx at E3 ⊢
            clear e1 e2
            obtain ⟨eb', o', hebo, hc1, hc2⟩ := HX.out _ E3.out.2 k hlt
            cases hebo
            rw [HUV.out.1] at hc1
            rw [HUV.out.2] at hc2
            have HW2 := Lib.hid E3.out.1
            have HB2 := Lib.hid E3.out.2
            have HCC := Lib.hid (show upd F v (F v || F u) = upd F v true by rw [← HC.out.1, ← HC.out.2.1]; rfl)
            clear E3
            have d3 : wx.cell? ⟨tb, u, none⟩ = some (.bool c3) := by rw [HC.out.2.2.1]; exact HW2.out.2.2.2.cell hun
            have d4 : wx.cell? ⟨tb, v, none⟩ = some (.bool c4) := by rw [HC.out.2.2.2]; exact HW2.out.2.2.2.cell hvn
            have f3 : wx.frozen? ⟨tb, u, none⟩ = false := HW2.out.2.2.2.frozen u
            have l3 : tb < wx.heap.size := HW2.out.2.2.2.lt
            cases c3
            · go_upto_region 12 with fail
              refine wp_region_still_tail 25 (by kernel_rfl) (by kernel_rfl) ?_
              simp only [List.take_succ_cons, List.take_zero, List.drop_succ_cons, List.drop_zero]
              repeat (with_reducible refine wpStill_step (fun K hK => ?_); go_simp; with_reducible refine hK _ ?_; clear hK K)
              with_reducible refine wpStill_nil ?_
              change wpList _ _ _ _ _ wx.drew
              have e1 : wx.drew.cell? ⟨tb, u, none⟩ = some (.bool false) := d3
              have e2 : wx.drew.frozen? ⟨tb, u, none⟩ = false := f3
              have e3 := HW2.out.drew.setT (show W.heap.size ≠ tb by have := HFAR.out.1; omega) (show fb ≠ tb by have := HFAR.out.1; omega) u (false || c4)
              have e4 := (Below.drew HB2.out).setCell (p := ⟨tb, u, none⟩) (show W.heap.size ≤ tb by have := HFAR.out.1; omega) (.bool (false || c4))
              rw [show (false || c4) = c4 by rfl] at e3 e4
              have E3 := Lib.hid (And.intro e3 e4)
              have HCD := Lib.hid (show upd T u (T u || T v) = upd T u c4 by rw [← HC.out.2.2.1, ← HC.out.2.2.2]; rfl)
              clear e3 e4
              generalize wx.drew = wd2 at e1 e2 E3 ⊢
              clear d3 d4 f3 l3 hc1 hc2
              go_wp2_with fail
              go_roundw
              case rel => exact ⟨k + 1, _, _, by go_num, by omega, HN, by rw [HCC.out, HCD.out]; exact Lib.hid E3.out.1, Lib.hid E3.out.2⟩
              case measure => simp [intOf]; omega
            · go_upto_region 12 with fail
              refine wp_region_still_tail 25 (by kernel_rfl) (by kernel_rfl) ?_
              simp only [List.take_succ_cons, List.take_zero, List.drop_succ_cons, List.drop_zero]
              repeat (with_reducible refine wpStill_step (fun K hK => ?_); go_simp; with_reducible refine hK _ ?_; clear hK K)
              with_reducible refine wpStill_nil ?_
              change wpList _ _ _ _ _ wx.drew
              have e1 : wx.drew.cell? ⟨tb, u, none⟩ = some (.bool true) := d3
              have e2 : wx.drew.frozen? ⟨tb, u, none⟩ = false := f3
              have e3 := HW2.out.drew.setT (show W.heap.size ≠ tb by have := HFAR.out.1; omega) (show fb ≠ tb by have := HFAR.out.1; omega) u (true || c4)
              have e4 := (Below.drew HB2.out).setCell (p := ⟨tb, u, none⟩) (show W.heap.size ≤ tb by have := HFAR.out.1; omega) (.bool (true || c4))
              rw [show (true || c4) = true by rfl] at e3 e4
              have E3 := Lib.hid (And.intro e3 e4)
              have HCD := Lib.hid (show upd T u (T u || T v) = upd T u true by rw [← HC.out.2.2.1, ← HC.out.2.2.2]; rfl)
              clear e3 e4
              generalize wx.drew = wd2 at e1 e2 E3 ⊢
              clear d3 d4 f3 l3 hc1 hc2
              go_wp2_with fail
              go_roundw
              case rel => exact ⟨k + 1, _, _, by go_num, by omega, HN, by rw [HCC.out, HCD.out]; exact Lib.hid E3.out.1, Lib.hid E3.out.2⟩
              case measure => simp [intOf]; omega
        · obtain rfl : k = es.length := by omega
          have HR2 := Lib.hid (HRD.out.next (by rw [show (natE es).length = es.length by simp [natE]]; exact HM.out))
          clear HM
          go_wp2_with fail
          go_roundw
          case rel => exact ⟨r + 1, F, T, by go_num, by omega, HR2, HW, HB⟩
          case measure => simp [intOf]; omega
    · obtain rfl : r = n := by omega
      have hes : ∀ e ∈ natE es, e.1 < r ∧ e.2 < r := nat_ok HOK.out
      have HF := Lib.hid (HRD.out.fin hes HGD.out hn1 (a := a) hbn)
      have d0 := HW.out.1
      have d1 := HW.out.2.1
      obtain ⟨c1, hc1⟩ : ∃ c, c = F0 a := ⟨_, rfl⟩
      obtain ⟨c2, hc2⟩ : ∃ c, c = T0 b := ⟨_, rfl⟩
      have d2 : wr.cell? ⟨fb, a, none⟩ = some (.bool c1) := by rw [hc1]; exact HW.out.2.2.1.cell ha
      have d3 : wr.cell? ⟨tb, b, none⟩ = some (.bool c2) := by rw [hc2]; exact HW.out.2.2.2.cell hbn
      rw [← hc1, ← hc2] at HF
      have ha1 : (a : Int) < (r : Int) := by omega
      have hb1 : (b : Int) < (r : Int) := by omega
      have ha0 : (0 : Int) ≤ (a : Int) := by omega
      have hb0 : (0 : Int) ≤ (b : Int) := by omega
      clear hc1 hc2
      cases c1
      · go_wp2_with fail
        go_ret
        exact ⟨_, rfl, HF.out, HB.out⟩
      · go_wp2_with fail
        go_ret
        exact ⟨_, rfl, HF.out, HB.out⟩
end Go.Proofs.Ytppbaiilhaagdaa
