/- assayerref1.Leaves at a desk's values. assayerref1.Told at a leaf. assayerref1.Told at a sum. assayerref1.one. -/
import Derived.Test.YtalbllijahiiiaaGreatDoorDkBA
section
namespace Go.Proofs.YtalbllijahiiiaaGreatDoor
open Go.RowKit Go.Mine Go.Mine.Desk

def LeavesPost (l : List Int) (w : World) (e : Ending) (w' : World) : Prop := (∃ u, e = .returned u ∧ w'.ownsRow w.heap.size 3 1 u l.length (l.map (.int .i64))) ∧ Below w.heap.size w w'
theorem Leaves_num (z : Int) (w : World) : Calls Tryz.prog 125 #[numV' z] w (LeavesPost [z] w) := by
  have HB := Lib.hid ((Below.refl w.heap.size w).alloc (Nat.le_refl _) (.cells #[.bool false, .int .i64 z, .slice none 0 0] 53))
  go_enter Tryz.func125, Tryz.ntmps125
  go_wp2_with fail
  go_ret
  refine ⟨⟨_, rfl, ?_⟩, HB.out.alloc HB.out.size _⟩
  have h := World.ownsRow_lit (base := w.heap.size) (e := 3) (size := 1) (w.alloc (.cells #[.bool false, .int .i64 z, .slice none 0 0] 53)) #[.int .i64 z] 1 HB.out.size (by unfold maxLen; omega) rfl
  simpa using h
set_option maxRecDepth 100000 in
set_option maxHeartbeats 2000000 in
theorem Leaves_list (zs : List Int) (ao : Option Addr) (c : Nat) (hl : zs.length ≤ 2000000) (w : World) (hi : ItemsAt w ao zs) : Calls Tryz.prog 125 #[.agg #[.bool true, .int .i64 0, .slice ao zs.length c]] w (LeavesPost zs w) := by
  obtain ⟨i1, hj1, hy0, hy1, hy2⟩ := info_parts infoI3d
  obtain ⟨w0, hw0⟩ : ∃ w0, w0 = w.alloc (.cells #[.bool true, .int .i64 0, .slice ao zs.length c] 53) := ⟨_, rfl⟩
  have hb0 : Below w.heap.size w w0 := by rw [hw0]; exact (Below.refl _ _).alloc (Nat.le_refl _) _
  have k0 : Blk w0 w.heap.size 53 #[.bool true, .int .i64 0, .slice ao zs.length c] := by rw [hw0]; exact Blk.new _ _ _
  have hi0w := hi.on (Nat.le_refl _) hb0
  obtain ⟨n, hn⟩ : ∃ n, zs.length = n := ⟨_, rfl⟩
  rw [hn] at hw0 hl k0 ⊢
  obtain ⟨B, hB⟩ : ∃ B, B = w.heap.size := ⟨_, rfl⟩
  rw [← hB] at k0
  have HB0 := Lib.hid (And.intro hb0 (And.intro hi0w (And.intro k0 (World.ownsRow_nil w0 (B + 1) 3 1))))
  have HW0 := Lib.hid hw0
  have HN := Lib.hid hn
  have c0 : w0.cell? ⟨B, 0, none⟩ = some (.bool true) := k0.cell 0
  rw [hw0] at c0
  have HBB := Lib.hid hB
  have HIL := Lib.hid (show ∀ b o, ao = some ⟨b, o, none⟩ → 0 < n → b < B from fun b o e h => by
    obtain ⟨b', e', h1, _⟩ := hi 0 (by omega)
    rw [e] at e'
    cases e'
    rw [hB]
    exact World.block_lt_of_cell? w _ h1)
  clear hi hi0w hb0 hw0 k0 hn hB
  go_enter Tryz.func125, Tryz.ntmps125
  go_wp2_with fail
  rw [← HW0.out, ← HBB.out]
  clear c0
  go_loopw [3, 4] (fun ov iv wr => ∃ k : Nat, iv = .int .i64 (k : Int) ∧ k ≤ n ∧ RowKit.Hid (Below w.heap.size w wr ∧ ItemsAt wr ao zs ∧ Blk wr B 53 #[.bool true, .int .i64 0, .slice ao n c] ∧ wr.ownsRow (B + 1) 3 1 ov k ((zs.take k).map (.int .i64)))) (fun _ iv _ => n - (intOf iv).toNat)
  case atStart => exact ⟨0, rfl, by omega, HB0⟩
  case round =>
    obtain ⟨k, rfl, hk, HK⟩ := hrel
    have e2 : wr.cell? ⟨B, 2, none⟩ = some (.slice ao n c) := HK.out.2.2.1.cell 2
    have hBl : B < wr.heap.size := HK.out.2.2.1.lt
    rcases Nat.lt_or_ge k n with hkn | hkn
    · obtain ⟨b, rfl, h0, h1, h2⟩ := HK.out.2.1 k (by rw [HN.out]; omega)
      obtain ⟨x, hxe⟩ : ∃ x, zs.getD k 0 = x := ⟨_, rfl⟩
      have hmem : zs[k]? = some x := by rw [← hxe]; simp [show k < zs.length by rw [HN.out]; omega]
      rw [hxe] at h1
      have hi0' : (0 : Int) ≤ (k : Int) := by omega
      have hi1 : (k : Int) < (n : Int) := by omega
      have hw1 : IntKind.i64.wrap ((k : Int) + 1) = ((k + 1 : Nat) : Int) := by rw [IntWalk.i64_in _ (by omega)]; omega
      have HD := Lib.hid (fun wx => Leaves_num x wx)
      have HM := Lib.hid hmem
      clear hxe hmem
      go_wp2_with fail
      refine (HD.out _).mono ?_
      clear HD
      rintro e w1 ⟨⟨u, rfl, hown⟩, hb1⟩
      obtain ⟨gu, cu, rfl⟩ := ownsRow_succ hown
      have hnews : w1.cell? ⟨gu, 0, none⟩ = some (.int .i64 x) := by rw [hown.cellAt 0 (by simp)]; rfl
      have HO := Lib.hid (owns_below HK.out.2.2.2 hb1)
      have HB1 := Lib.hid (And.intro (HK.out.1.trans (hb1.mono HK.out.1.size)) (And.intro (HK.out.2.1.on (Nat.le_refl _) hb1) (HK.out.2.2.1.below hb1)))
      have hsz1 : B + 1 ≤ w1.heap.size := Nat.le_trans hBl hb1.size
      have HE := Lib.hid hnews
      clear hb1 h0 h1 h2 e2 hown hnews
      go_wp2_with (at_builtin; refine wpList_push2 _ rfl _ _ 48 rfl (B + 1) 3 i1 (.int .i64 0) 1 8 Tryz.underlying48 hj1 hy0 hy1 hy2 rfl (by decide) _ _ _ rfl HO.out ⟨gu, 0, none⟩ _ [.int .i64 x] rfl rfl (fun j u hj => by (obtain ⟨rfl, rfl⟩ : j = 0 ∧ u = .int .i64 x := by (cases j with | zero => exact ⟨rfl, by simpa using hj.symm⟩ | succ j => simp at hj)); exact HE.out) (by simp [Value.oneCell']) (by unfold maxLen; omega) (by omega) (by omega) ?_)
      intro g cap w7 hown hgr hat7
      have HB7 := Lib.hid (show Below w.heap.size w w7 ∧ ItemsAt w7 (some ⟨b, 0, none⟩) zs ∧ Blk w7 B 53 #[.bool true, .int .i64 0, .slice (some ⟨b, 0, none⟩) n c] ∧ w7.ownsRow (B + 1) 3 1 (.slice (some ⟨g, 0, none⟩) (k + 1) cap) (k + 1) ((zs.take (k + 1)).map (.int .i64)) from by
        have hlow : ∀ q, q ≤ B → q < w1.heap.size → w7.heap[q]? = w1.heap[q]? := fun q hq hq2 => hgr.block q hq2 (fun e => by have := (HO.out.lt q e.symm).1; omega)
        refine ⟨HB1.out.1.grown hgr HB1.out.1.size (fun q hq => by have := (HO.out.lt q hq).1; rw [← HBB.out]; omega), fun j hj => ?_, (hlow B (Nat.le_refl _) HB1.out.2.2.lt).trans HB1.out.2.2, ?_⟩
        · obtain ⟨b', e', g0, g1, g2⟩ := HB1.out.2.1 j hj
          have hbB : b' < B := HIL.out b' 0 e' (by omega)
          have hh := hlow b' (by omega) (by omega)
          exact ⟨b', e', (World.cell?_of_block hh).trans g0, (World.cell?_of_block hh).trans g1, (World.cell?_of_block hh).trans g2⟩
        · rw [List.take_add_one, HM.out]
          simpa using hown)
      clear hown hgr hat7
      go_wp2_with fail
      go_roundw
      case rel => exact ⟨k + 1, by go_num, by omega, HB7⟩
      case measure => simp [intOf]; omega
    · have hkl : k = n := by omega
      subst hkl
      go_wp2_with fail
      go_ret
      have hO := HK.out.2.2.2
      rw [List.take_of_length_le (by rw [HN.out]; omega)] at hO
      exact ⟨⟨_, rfl, by rw [HN.out]; exact hO.mono (by rw [← HBB.out]; omega)⟩, HK.out.1⟩
end Go.Proofs.YtalbllijahiiiaaGreatDoor
end

section
namespace Go.Proofs.YtalbllijahiiiaaGreatDoor
open Go.RowKit Go.Mine Go.Mine.Desk

def leavesV : V → List Int
  | .num z => [z]
  | .list zs => zs
theorem leavesV_sum (x : V) : (leavesV x).sum = total x := by cases x <;> simp [leavesV, total]
theorem Leaves_any (x : V) (v : Value) (B0 : Nat) (w : World) (hv : ValAt w B0 v x) (hx : VOk x) : Calls Tryz.prog 125 #[v] w (LeavesPost (leavesV x) w) := by
  cases x with
  | num z =>
    rw [show v = numV' z from hv]
    exact Leaves_num z w
  | list zs =>
    obtain ⟨ao, c, h1, h2⟩ := hv.open
    rw [h1]
    exact Leaves_list zs ao c (by have := hx.1; omega) w h2
set_option maxRecDepth 100000 in
set_option maxHeartbeats 2000000 in
theorem Told_lit (n : Int) (v : Value) (x : V) (B0 : Nat) (w : World) (hv : ValAt w B0 v x) (hx : VOk x) : Calls Tryz.prog 100 #[leafE 1 n, v] w fun e w' => e = .returned (.tuple #[.int .i64 n, .bool true]) ∧ Below w.heap.size w w' := by
  obtain ⟨vk, vz, vao, vn, vc, hsh⟩ := hv.shape
  obtain ⟨w0, hw0⟩ : ∃ w0, w0 = (w.alloc (.cells #[.int .i64 1, .int .i64 n, .slice none 0 0] 41)).alloc (.cells #[.bool vk, .int .i64 vz, .slice vao vn vc] 53) := ⟨_, rfl⟩
  have hb0 : Below w.heap.size w w0 := by rw [hw0]; exact ((Below.refl w.heap.size w).alloc (Nat.le_refl _) _).alloc (by simp) _
  obtain ⟨B, hB⟩ : ∃ B, w.heap.size = B := ⟨_, rfl⟩
  have kb : Blk w0 B 41 #[.int .i64 1, .int .i64 n, .slice none 0 0] := by rw [hw0, ← hB]; exact (Blk.new _ _ _).alloc _
  have HL := Lib.hid (Leaves_any x v B0 w0 (hv.below hb0) hx)
  have HK := Lib.hid (And.intro hb0 kb)
  have HBB := Lib.hid hB
  have HW := Lib.hid hw0
  rw [hsh, hw0] at HL
  rw [hsh]
  clear hv hw0 hb0 kb hB hsh
  go_enter Tryz.func100, Tryz.ntmps100
  go_wp2_with fail
  refine HL.out.mono ?_
  clear HL
  rintro e w1 ⟨⟨u, rfl, hown⟩, hb1⟩
  rw [← HW.out] at hb1
  have kb1 := HK.out.2.below hb1
  have e0 : w1.cell? ⟨B, 0, none⟩ = some (.int .i64 1) := kb1.cell 0
  have e1 : w1.cell? ⟨B, 1, none⟩ = some (.int .i64 n) := kb1.cell 1
  have HB1 := Lib.hid (HK.out.1.trans (hb1.mono HK.out.1.size))
  rw [HBB.out]
  clear hb1 kb1 hown
  go_wp2_with fail
  go_ret2
  exact ⟨rfl, HB1.out⟩
end Go.Proofs.YtalbllijahiiiaaGreatDoor
end

section
namespace Go.Proofs.YtalbllijahiiiaaGreatDoor
open Go.RowKit Go.Mine Go.Mine.Desk

theorem leaves_ok {x : V} (h : VOk x) : (leavesV x).length ≤ 5 ∧ ∀ z ∈ leavesV x, small z := by
  cases x with
  | num z => exact ⟨by simp [leavesV], fun y hy => by simp [leavesV] at hy; subst hy; exact h⟩
  | list zs => exact h
theorem sum_take {l : List Int} (h : ∀ z ∈ l, small z) : ∀ k : Nat, -2147483648 * (k : Int) ≤ (l.take k).sum ∧ (l.take k).sum ≤ 2147483648 * (k : Int)
  | 0 => by simp
  | k + 1 => by
    obtain ⟨i1, i2⟩ := sum_take h k
    rw [List.take_add_one]
    cases hx : l[k]? with
    | none => simp; omega
    | some x =>
      have := h x (List.mem_of_getElem? hx)
      unfold small at this
      simp
      omega
set_option maxRecDepth 100000 in
set_option maxHeartbeats 4000000 in
theorem Told_sum (m : Int) (v : Value) (x : V) (B0 : Nat) (w : World) (hv : ValAt w B0 v x) (hx : VOk x) : Calls Tryz.prog 100 #[leafE 2 m, v] w fun e w' => e = .returned (.tuple #[.int .i64 (total x), .bool true]) ∧ Below w.heap.size w w' := by
  obtain ⟨vk, vz, vao, vn, vc, hsh⟩ := hv.shape
  obtain ⟨w0, hw0⟩ : ∃ w0, w0 = (w.alloc (.cells #[.int .i64 2, .int .i64 m, .slice none 0 0] 41)).alloc (.cells #[.bool vk, .int .i64 vz, .slice vao vn vc] 53) := ⟨_, rfl⟩
  have hb0 : Below w.heap.size w w0 := by rw [hw0]; exact ((Below.refl w.heap.size w).alloc (Nat.le_refl _) _).alloc (by simp) _
  obtain ⟨B, hB⟩ : ∃ B, w.heap.size = B := ⟨_, rfl⟩
  have kb : Blk w0 B 41 #[.int .i64 2, .int .i64 m, .slice none 0 0] := by rw [hw0, ← hB]; exact (Blk.new _ _ _).alloc _
  have HL := Lib.hid (Leaves_any x v B0 w0 (hv.below hb0) hx)
  have HT := Lib.hid (leavesV_sum x)
  obtain ⟨hl5, hsm⟩ := leaves_ok hx
  obtain ⟨l, hl⟩ : ∃ l, l = leavesV x := ⟨_, rfl⟩
  rw [← hl] at HL HT hl5 hsm
  have HK := Lib.hid (And.intro hb0 kb)
  have HBB := Lib.hid hB
  have HW := Lib.hid hw0
  rw [hsh, hw0] at HL
  rw [hsh]
  clear hv hw0 hb0 kb hB hsh hl hx
  go_enter Tryz.func100, Tryz.ntmps100
  go_wp2_with fail
  refine HL.out.mono ?_
  clear HL
  rintro e w1 ⟨⟨u, rfl, hown⟩, hb1⟩
  rw [← HW.out] at hb1
  obtain ⟨uo, uc, rfl⟩ := owns_shape hown
  have hat := IntsAt.of_owns hown
  have kb1 := HK.out.2.below hb1
  have e0 : w1.cell? ⟨B, 0, none⟩ = some (.int .i64 2) := kb1.cell 0
  have HB1 := Lib.hid (HK.out.1.trans (hb1.mono HK.out.1.size))
  have HA := Lib.hid hat
  rw [HBB.out]
  clear hb1 kb1 hown hat
  go_wp2_with fail
  go_loopw [7, 8, 9] (fun sv tv iv wr => ∃ (k : Nat) (t : Int), sv = .int .i64 ((l.take k).sum) ∧ tv = .int .i64 t ∧ iv = .int .i64 (k : Int) ∧ k ≤ l.length ∧ wr = w1) (fun _ _ iv _ => l.length - (intOf iv).toNat)
  case atStart => exact ⟨0, 0, rfl, rfl, rfl, by omega, by first | trivial | rfl⟩
  case round =>
    obtain ⟨k, t, rfl, rfl, rfl, hk, hwr⟩ := hrel
    have HWR := Lib.hid hwr
    have e0' : wr.cell? ⟨B, 0, none⟩ = some (.int .i64 2) := by rw [hwr]; exact e0
    rcases Nat.lt_or_ge k l.length with hlt | hge
    · obtain ⟨b, o, rfl, hc0⟩ := HA.out k hlt
      rw [← hwr] at hc0
      obtain ⟨y, hy⟩ : ∃ y, y = l.getD k 0 := ⟨_, rfl⟩
      have hye : l[k]? = some y := by rw [hy]; simp [hlt]
      rw [← hy] at hc0
      have hsy := hsm y (List.mem_of_getElem? hye)
      obtain ⟨s1, s2⟩ := sum_take hsm k
      have HS := Lib.hid (show (l.take (k + 1)).sum = (l.take k).sum + y by rw [List.take_add_one, hye]; simp)
      obtain ⟨s, hs⟩ : ∃ s, s = (l.take k).sum := ⟨_, rfl⟩
      rw [← hs] at HS s1 s2 ⊢
      unfold small at hsy
      have hi0 : (0 : Int) ≤ (k : Int) := by omega
      have hi1 : (k : Int) < (l.length : Int) := by omega
      have hw1 : IntKind.i64.wrap ((k : Int) + 1) = ((k + 1 : Nat) : Int) := by rw [IntWalk.i64_in _ (by omega)]; omega
      have hw2 : IntKind.i64.wrap (s + y) = s + y := IntWalk.i64_in _ (by omega)
      clear hy hye hs hwr
      rcases Nat.eq_zero_or_pos k with hk0 | hk0
      · subst hk0
        rw [Nat.add_zero] at hc0
        have hln : 0 < l.length := hlt
        go_wp2_with fail
        go_roundw
        case rel => exact ⟨1, y, by rw [HS.out], rfl, by go_num, by omega, HWR.out⟩
        case measure => simp [intOf]; omega
      · have hne : ((k : Int) == 0) = false := by rw [beq_eq_false_iff_ne]; omega
        have hne2 : ¬ (k : Int) = 0 := by omega
        have hne3 : ¬ k = 0 := by omega
        by_cases hgt : t < y
        · have d1 : decide (t < y) = true := decide_eq_true hgt
          go_wp2_with fail
          go_roundw
          case rel => exact ⟨k + 1, y, by rw [HS.out], rfl, by go_num, by omega, HWR.out⟩
          case measure => simp [intOf]; omega
        · have d1 : decide (t < y) = false := decide_eq_false hgt
          go_wp2_with fail
          go_roundw
          case rel => exact ⟨k + 1, t, by rw [HS.out], rfl, by go_num, by omega, HWR.out⟩
          case measure => simp [intOf]; omega
    · have hkl : k = l.length := by omega
      subst hkl
      clear hwr
      go_wp2_with fail
      go_ret2
      exact ⟨by rw [List.take_of_length_le (Nat.le_refl _), HT.out]; rfl, by rw [HWR.out]; exact HB1.out⟩
end Go.Proofs.YtalbllijahiiiaaGreatDoor
end

section
namespace Go.Proofs.YtalbllijahiiiaaGreatDoor
open Go.RowKit Go.Mine Go.Mine.Desk

theorem one_any (t : Bool) (w : World) : Calls Tryz.prog 126 #[.bool t] w fun e w' => e = .returned (.int .i64 (if t then 1 else 0)) ∧ w' = w := by
  cases t with
  | false =>
    go_enter Tryz.func126, Tryz.ntmps126
    go_wp2_with fail
    go_ret
    exact ⟨rfl, rfl⟩
  | true =>
    go_enter Tryz.func126, Tryz.ntmps126
    go_wp2_with fail
    go_ret
    exact ⟨rfl, rfl⟩
end Go.Proofs.YtalbllijahiiiaaGreatDoor
end
