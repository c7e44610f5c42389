/- assayerref2.OffOf, Tours. -/
import Derived.Test.YtnbnfgljbhidbaaDoorF
import Derived.StillTailTactics
import Derived.Test.YtnbnfgljbhidbaaDoorR
import Derived.Test.YtnbnfgljbhidbaaDoorReachOf
import Derived.Test.YtnbnfgljbhidbaaDoorEdgeFault
import Derived.Test.YtnbnfgljbhidbaaDoorTold
namespace Go.Proofs.YtnbnfgljbhidbaaDoor
open Go.RowKit Go.Mine Go.Mine.Tour Go.Deep

set_option maxHeartbeats 400000 in
theorem offOf_any (N : Nat) (es : List (Int × Int)) (lo : Option Addr) (lc : Nat) (W : World) (hx : PairsAt W lo es) (hok : ok N es) :
    Calls Tryd.prog 6 #[.int .i64 N, .slice lo es.length lc] W fun e w' => e = .returned (.slice (some ⟨W.heap.size, 0, none⟩) N N) ∧ w'.ownsRow W.heap.size 3 1 (.slice (some ⟨W.heap.size, 0, none⟩) N N) N ((offs es N es.length).map (Value.int .i64)) ∧ Below W.heap.size W w' := by
  have HX := Lib.hid hx
  clear hx
  have hn1 := hok.1
  have hn12 := hok.2.1
  have hl30 := hok.2.2.1
  have HES := Lib.hid hok.2.2.2
  have hmk := run_make_row' (P := Tryd.prog) 26 3 (.int .i64 0) 8 Tryd.underlying26 info3 rfl .i64 .i64 N (by omega) (by omega)
  clear hok
  have hown : (W.alloc (.cells (madeCells #[Value.int .i64 0] N) 3)).ownsRow W.heap.size 3 1 (.slice (some ⟨W.heap.size, 0, none⟩) N N) N ((offs es N 0).map (Value.int .i64)) := by
    have := World.ownsRow_lit (base := W.heap.size) (e := 3) (size := 1) W (madeCells #[Value.int .i64 0] N) N (Nat.le_refl _) (by unfold maxLen; omega) (by rw [← Array.length_toList, made_ints]; simp)
    rw [made_ints] at this
    rw [offs_zero]
    exact this
  have HO1 := Lib.hid hown
  have HB1 := Lib.hid ((Below.refl W.heap.size W).alloc (Nat.le_refl _) (.cells (madeCells #[Value.int .i64 0] N) 3))
  clear hown
  go_enter Tryd.func6, Tryd.ntmps6
  go_wp2_with fail
  go_loopw [6] (fun t wr => ∃ k : Nat, t = .int .i64 k ∧ k ≤ es.length ∧ wr.ownsRow W.heap.size 3 1 (.slice (some ⟨W.heap.size, 0, none⟩) N N) N ((offs es N k).map (Value.int .i64)) ∧ Below W.heap.size W wr) (fun t _ => es.length - (intOf t).toNat)
  case atStart => exact ⟨0, rfl, by omega, HO1.out, HB1.out⟩
  case round =>
    obtain ⟨k, rfl, hk, ho, hb⟩ := hrel
    clear hmk
    by_cases hlt : k < es.length
    · obtain ⟨b0, o0, rfl, hc1, hc2⟩ := HX.out k hlt
      have hbl : b0 < W.heap.size := World.block_lt_of_cell? W _ hc1
      have hc1 := (hb.cell (p := ⟨b0, o0 + k * 2, none⟩) hbl).trans hc1
      have hc2 := (hb.cell (p := ⟨b0, o0 + k * 2 + 1, none⟩) hbl).trans hc2
      have hmem : es.getD k (0, 0) ∈ es := by simp [hlt]
      obtain ⟨q1, q2, q3, q4⟩ := HES.out _ hmem
      obtain ⟨⟨x, y⟩, hxy⟩ : ∃ e, e = es.getD k (0, 0) := ⟨_, rfl⟩
      rw [← hxy] at hc1 hc2 q1 q2 q3 q4
      obtain ⟨a, rfl⟩ := Int.eq_ofNat_of_zero_le q1
      obtain ⟨b, rfl⟩ := Int.eq_ofNat_of_zero_le q3
      simp only at hc1 hc2 q2 q4
      have han : a < N := by simpa using q2
      have hbn : b < N := by simpa using q4
      have hsucc := offs_succ (n := N) hlt hxy.symm
      have hba := offK_bound es k a
      have hbb := offK_bound es k b
      obtain ⟨u, hu⟩ : ∃ u, u = offK es k a := ⟨_, rfl⟩
      have hca : wr.cell? ⟨W.heap.size, a, none⟩ = some (.int .i64 u) := by rw [ho.cellAt a (by omega), List.getElem?_map, offs_get es N k a han, ← hu]; rfl
      have s1 := ho.stored a (.int .i64 (u + 1))
      have hs1 : ((offs es N k).map (Value.int .i64)).set a (.int .i64 (u + 1)) = (offs1 es N k a).map (Value.int .i64) := by rw [← List.map_set, hu]; rfl
      rw [hs1] at s1
      obtain ⟨t, ht⟩ : ∃ t, t = offK es k b + (if a = b then 1 else 0) := ⟨_, rfl⟩
      have hcb : (wr.setCell ⟨W.heap.size, a, none⟩ (.int .i64 (u + 1))).cell? ⟨W.heap.size, b, none⟩ = some (.int .i64 t) := by rw [s1.1.cellAt b (by omega), List.getElem?_map, offs1_get es N k a b hbn, ← ht]; rfl
      have s2 := s1.1.stored b (.int .i64 (t - 1))
      rw [← List.map_set, ht, hsucc] at s2
      have hbt : -31 ≤ t ∧ t ≤ 31 := by rw [ht]; split <;> omega
      have hlt2 := (ho.lt W.heap.size rfl).2
      have hfa := ho.frozenAt a
      have hfb := s1.1.frozenAt b
      rw [← ht] at s2
      rw [← hu] at hba
      have hwr1 : IntKind.i64.wrap (u + 1) = u + 1 := IntWalk.i64_in _ (by omega)
      have hwr2 : IntKind.i64.wrap (t - 1) = t - 1 := IntWalk.i64_in _ (by omega)
      have hc3 : (wr.setCell ⟨W.heap.size, a, none⟩ (.int .i64 (u + 1))).cell? ⟨b0, o0 + k * 2 + 1, none⟩ = some (.int .i64 b) :=
        (((Below.refl W.heap.size wr).setCell (p := ⟨W.heap.size, a, none⟩) (Nat.le_refl _) (.int .i64 (u + 1))).cell (p := ⟨b0, o0 + k * 2 + 1, none⟩) hbl).trans hc2
      obtain ⟨w5, hw5⟩ : ∃ w5, w5 = (wr.setCell ⟨W.heap.size, a, none⟩ (.int .i64 (u + 1))).drew := ⟨_, rfl⟩
      have hd2 : w5.cell? ⟨b0, o0 + k * 2 + 1, none⟩ = some (.int .i64 b) := by rw [hw5]; exact hc3
      have hd3 : w5.cell? ⟨W.heap.size, b, none⟩ = some (.int .i64 t) := by rw [hw5]; exact hcb
      have hd4 : w5.frozen? ⟨W.heap.size, b, none⟩ = false := by rw [hw5]; exact hfb
      have s2' : (w5.setCell ⟨W.heap.size, b, none⟩ (.int .i64 (t - 1))).ownsRow W.heap.size 3 1 (.slice (some ⟨W.heap.size, 0, none⟩) N N) N ((offs es N (k + 1)).map (Value.int .i64)) := by rw [hw5]; exact s2.1
      have hb2 : Below W.heap.size W (w5.setCell ⟨W.heap.size, b, none⟩ (.int .i64 (t - 1))) := by rw [hw5]; exact ((hb.setCell (p := ⟨W.heap.size, a, none⟩) (Nat.le_refl _) (.int .i64 (u + 1))).drew).setCell (p := ⟨W.heap.size, b, none⟩) (Nat.le_refl _) (.int .i64 (t - 1))
      have HW5 := Lib.hid hw5
      have HO2 := Lib.hid s2'
      have HB2 := Lib.hid hb2
      clear hxy hsucc hbb hu s1 hs1 ht s2 ho hb q1 q3 hmem hb2 s2' hc3 hcb hfb hw5
      go_wp2_with fail
      go_still_tail 16, (by kernel_rfl)
      go_wp2_with fail
      rw [← HW5.out]
      go_still_tail 16, (by kernel_rfl)
      go_wp2_with fail
      go_roundw
      case rel => exact ⟨k + 1, by go_num, by omega, HO2.out.drew, HB2.out.drew⟩
      case measure => simp [intOf]; omega
    · have hke : k = es.length := by omega
      subst hke
      go_wp2_with fail
      go_ret
      exact ⟨rfl, ho, hb⟩
end Go.Proofs.YtnbnfgljbhidbaaDoor
