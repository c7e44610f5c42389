/- assayerref2.ReachOf, from any node, none left out. No conditions. -/
import Derived.Test.YtppbaiilhaagdaaDoorCheck2
import Derived.Test.YtppbaiilhaagdaaDoorMet
import Derived.Test.YtppbaiilhaagdaaDoorPathF
import Derived.Test.YtppbaiilhaagdaaDoorMore
import Derived.Deep.OwnRows
namespace Go.Proofs.YtppbaiilhaagdaaDoor
open Go.RowKit Go.Mine Go.Mine.Path Go.Mine.Flow Go.Deep

theorem infoBoolF : (Tryd.prog.info? 4).map (fun i => (i.zero, i.size, i.bytes)) = some (some (.bool false), 1, 1) := by kernel_rfl
theorem made_bools (n : Nat) : (madeCells #[Value.bool false] n).toList = (List.replicate n false).map Value.bool := by
  rw [toList_madeCells_one]; simp
theorem bools_at (ys : List Bool) (v : Nat) (h : v < ys.length) : (ys.map Value.bool)[v]? = some (.bool (ys.getD v false)) := by simp [h]
set_option maxHeartbeats 1000000 in
set_option maxRecDepth 100000 in
theorem reachF_any (es : List (Int × Int)) (lo : Option Addr) (lc : Nat) (s n : Nat) (W : World) (hx : PairsAt W lo es) (hes : ∀ e ∈ es, 0 ≤ e.1 ∧ e.1 < n ∧ 0 ≤ e.2 ∧ e.2 < n) (hn : n ≤ 12) (hn1 : 1 ≤ n) (hel : es.length ≤ 30) (hsn : s < n) :
    Calls Tryd.prog 15 #[.int .i64 n, .slice lo es.length lc, .int .i64 s, .int .i64 (-1)] W fun e w' => ∃ ys : List Bool, e = .returned (.slice (some ⟨W.heap.size, 0, none⟩) n n) ∧ ys.length = n ∧
      w'.ownsRow W.heap.size 4 1 (.slice (some ⟨W.heap.size, 0, none⟩) n n) n (ys.map Value.bool) ∧ (∀ v, M ys v ↔ Rch (natE es) s v) ∧ Below W.heap.size W w' := by
  have hmk := run_make_row' (P := Tryd.prog) 43 4 (.bool false) 1 Tryd.underlying43 infoBoolF rfl .i64 .i64 n (by omega) (by omega)
  have HX := Lib.hid (show ∀ w, Below W.heap.size W w → PairsAt w lo es from fun w hb => hx.below (Nat.le_refl _) hb); clear hx
  have HES := Lib.hid hes; clear hes
  have hst := TurnsF.start (natE es) hsn
  have hes2 : ∀ e ∈ natE es, e.1 < n ∧ e.2 < n := fun e he => by
    simp only [natE, List.mem_map] at he
    obtain ⟨⟨x, y⟩, hm, rfl⟩ := he
    have := HES.out _ hm
    simp only at this ⊢
    omega
  have HE2 := Lib.hid hes2
  clear hes2
  have hmade := made_bools n
  have ho0 : (W.alloc (.cells (madeCells #[Value.bool false] n) 4)).ownsRow W.heap.size 4 1 (.slice (some ⟨W.heap.size, 0, none⟩) n n) n ((List.replicate n false).map Value.bool) := by
    rw [← hmade]
    exact owns_laid (heap_alloc_at _ _ rfl) (Nat.le_refl _) (by rw [← Array.length_toList, hmade]; simp) (by unfold maxLen; omega)
  have hbn : ((s : Int) != -1) = true := by rw [bne_iff_ne]; omega
  have hs00 : (0 : Int) ≤ (s : Int) := by omega
  have hs01 : (s : Int) < (n : Int) := by omega
  have hs0 := (ho0.stored s (.bool true)).1
  rw [← List.map_set] at hs0
  have hf0 := ho0.frozenAt s
  have hc0 : (W.alloc (.cells (madeCells #[Value.bool false] n) 4)).cell? ⟨W.heap.size, s, none⟩ = some (.bool false) := by
    rw [ho0.cellAt s (by omega), List.getElem?_map]
    simp [hsn]
  have hbel : Below W.heap.size W ((W.alloc (.cells (madeCells #[Value.bool false] n) 4)).setCell ⟨W.heap.size, s, none⟩ (.bool true)) := ((Below.refl _ _).alloc (Nat.le_refl _) _).setCell (by simp) _
  rw [World.setCell_alloc_at _ _ _ _ _ rfl] at hs0 hbel
  have HST := Lib.hid hst
  have HS0 := Lib.hid hs0
  have HB0 := Lib.hid hbel
  clear hst hmade ho0 hs0 hbel
  go_enter Tryd.func15, Tryd.ntmps15
  go_wp2_with fail
  clear hmk hbn hf0 hc0
  go_loopw [10] (fun rv wr => ∃ (r : Nat) (xs : List Bool), rv = .int .i64 r ∧ r ≤ n ∧ TurnsF (natE es) s n r xs ∧ wr.ownsRow W.heap.size 4 1 (.slice (some ⟨W.heap.size, 0, none⟩) n n) n (xs.map Value.bool) ∧ Below W.heap.size W wr) (fun rv _ => n - (intOf rv).toNat)
  case atStart => exact ⟨0, _, rfl, by omega, HST.out, HS0.out, HB0.out⟩
  case round =>
    obtain ⟨r, xs, rfl, hr, ht, hown, hb⟩ := hrel
    have HT := Lib.hid ht
    have HOWN := Lib.hid hown
    have HB := Lib.hid hb
    clear ht hown hb
    by_cases hrn : r < n
    · go_wp2_with fail
      go_loopw [11] (fun iv wr => ∃ (k : Nat) (ys : List Bool), iv = .int .i64 k ∧ k ≤ es.length ∧ TurnF (natE es) s k xs ys ∧ wr.ownsRow W.heap.size 4 1 (.slice (some ⟨W.heap.size, 0, none⟩) n n) n (ys.map Value.bool) ∧ Below W.heap.size W wr) (fun iv _ => es.length - (intOf iv).toNat)
      case atStart => exact ⟨0, xs, rfl, by omega, HT.out.turn, HOWN.out, HB.out⟩
      case round =>
        obtain ⟨k, ys, rfl, hk, htn, hown, hb⟩ := hrel
        by_cases hlt : k < es.length
        · obtain ⟨b, o, rfl, hc1, hc2⟩ := HX.out _ hb k hlt
          have hmem : es.getD k (0, 0) ∈ es := by simp [hlt]
          have hr := HES.out _ hmem
          obtain ⟨u, hu⟩ : ∃ u : Nat, (es.getD k (0, 0)).1 = u := ⟨(es.getD k (0, 0)).1.toNat, by omega⟩
          obtain ⟨w, hw⟩ : ∃ w : Nat, (es.getD k (0, 0)).2 = w := ⟨(es.getD k (0, 0)).2.toNat, by omega⟩
          rw [hu] at hc1
          rw [hw] at hc2
          have hun : u < n := by omega
          have hwn : w < n := by omega
          have hek : (natE es)[k]? = some (u, w) := by
            unfold natE
            have e : es.getD k (0, 0) = es[k] := by simp [hlt]
            rw [e] at hu hw
            rw [List.getElem?_map, List.getElem?_eq_getElem hlt]
            simp [hu, hw]
          have hyl : ys.length = n := htn.len.trans HT.out.len
          have hstep := htn.step hek (by rw [HT.out.len]; exact hwn)
          have hcu : wr.cell? ⟨W.heap.size, u, none⟩ = some (.bool (ys.getD u false)) := by rw [hown.cellAt u (by omega)]; exact bools_at ys u (by omega)
          have hcw : wr.cell? ⟨W.heap.size, w, none⟩ = some (.bool (ys.getD w false)) := by rw [hown.cellAt w (by omega)]; exact bools_at ys w (by omega)
          have hfw := hown.frozenAt w
          have hgl := (hown.lt W.heap.size rfl).2
          have hst := (hown.stored w (.bool true)).1
          rw [← List.map_set] at hst
          obtain ⟨c, hcc⟩ : ∃ c, c = ys.getD u false := ⟨_, rfl⟩
          obtain ⟨c2, hcc2⟩ : ∃ c2, c2 = ys.getD w false := ⟨_, rfl⟩
          rw [← hcc] at hcu hstep
          rw [← hcc2] at hcw
          have HSTEP := Lib.hid hstep
          have HST2 := Lib.hid hst
          have HB2 := Lib.hid (hb.setCell (p := ⟨W.heap.size, w, none⟩) (Nat.le_refl _) (.bool true))
          have HOWN2 := Lib.hid hown
          have HB3 := Lib.hid hb
          clear hu hw hek hyl hstep hst hcc hcc2 hown hb htn hmem
          cases c
          · rw [if_neg (fun h => by cases h)] at HSTEP
            go_wp2_with fail
            go_roundw
            case rel => exact ⟨k + 1, ys, by go_num, by omega, HSTEP.out, HOWN2.out, HB3.out⟩
            case measure => simp [intOf]; omega
          · rw [if_pos rfl] at HSTEP
            have hb1 : ((w : Int) != -1) = true := by rw [bne_iff_ne]; omega
            go_wp2_with fail
            go_roundw
            case rel => exact ⟨k + 1, _, by go_num, by omega, HSTEP.out, HST2.out, HB2.out⟩
            case measure => simp [intOf]; omega
        · have hke : k = es.length := by omega
          have HN := Lib.hid (HT.out.round (by rw [show (natE es).length = k by rw [hke]; simp [natE]]; exact htn))
          have HOWN2 := Lib.hid hown
          have HB3 := Lib.hid hb
          clear hown hb htn hke
          go_wp2_with fail
          go_roundw
          case rel => exact ⟨r + 1, ys, by go_num, by omega, HN.out, HOWN2.out, HB3.out⟩
          case measure => simp [intOf]; omega
    · obtain rfl : r = n := by omega
      go_wp2_with fail
      go_ret
      exact ⟨xs, rfl, HT.out.len, HOWN.out, HT.out.fin HE2.out hsn, HB.out⟩
end Go.Proofs.YtppbaiilhaagdaaDoor
