/- val.Check, val.Text at a desk's values. -/
import Derived.Test.YtalbllijahiiiaaGreatDoorDesk11
namespace Go.Proofs.YtalbllijahiiiaaGreatDoor
open Go.RowKit Go.Mine Go.Mine.Desk

theorem flatV_get : ∀ (zs : List Int) (k : Nat), k < zs.length → (flatV zs)[k * 3]? = some (.bool false) ∧ (flatV zs)[k * 3 + 1]? = some (.int .i64 (zs.getD k 0)) ∧ (flatV zs)[k * 3 + 2]? = some (.slice none 0 0)
  | [], k, h => by simp at h
  | z :: zs, 0, _ => ⟨rfl, rfl, rfl⟩
  | z :: zs, k + 1, h => by
    have ih := flatV_get zs k (by simpa using h)
    have e : flatV (z :: zs) = [.bool false, .int .i64 z, .slice none 0 0] ++ flatV zs := rfl
    rw [e, Nat.succ_mul]
    refine ⟨?_, ?_, ?_⟩
    · rw [List.getElem?_append_right (by simp)]; simpa using ih.1
    · rw [List.getElem?_append_right (by simp)]; simpa [show k * 3 + 3 + 1 - 3 = k * 3 + 1 by omega] using ih.2.1
    · rw [List.getElem?_append_right (by simp)]; simpa [show k * 3 + 3 + 2 - 3 = k * 3 + 2 by omega] using ih.2.2
/-- A list's items, read. -/
def ItemsAt (w : World) (ao : Option Addr) (zs : List Int) : Prop := ∀ k, k < zs.length → ∃ b, ao = some ⟨b, 0, none⟩ ∧ w.cell? ⟨b, k * 3, none⟩ = some (.bool false) ∧ w.cell? ⟨b, k * 3 + 1, none⟩ = some (.int .i64 (zs.getD k 0)) ∧ w.cell? ⟨b, k * 3 + 2, none⟩ = some (.slice none 0 0)
theorem ItemsAt.on {w w' : World} {ao : Option Addr} {zs : List Int} (h : ItemsAt w ao zs) {B : Nat} (hB : w.heap.size ≤ B) (hb : Below B w w') : ItemsAt w' ao zs := fun k hk => by
  obtain ⟨b, h0, h1, h2, h3⟩ := h k hk
  have hl := World.block_lt_of_cell? w _ h1
  exact ⟨b, h0, (hb.cell (by exact Nat.lt_of_lt_of_le hl hB)).trans h1, (hb.cell (by exact Nat.lt_of_lt_of_le hl hB)).trans h2, (hb.cell (by exact Nat.lt_of_lt_of_le hl hB)).trans h3⟩
theorem ValAt.open {w : World} {B : Nat} {v : Value} {zs : List Int} (h : ValAt w B v (.list zs)) : ∃ ao c, v = .agg #[.bool true, .int .i64 0, .slice ao zs.length c] ∧ ItemsAt w ao zs := by
  obtain ⟨u, rfl, hu⟩ := h
  rcases hu.2 with ⟨rfl, h0⟩ | ⟨g, cap, cur, rfl, hg, hbk, hcap, hmx, hsz, htk⟩
  · exact ⟨none, 0, by rw [h0], fun k hk => by omega⟩
  · refine ⟨some ⟨g, 0, none⟩, cap, rfl, fun k hk => ⟨g, rfl, ?_, ?_, ?_⟩⟩
    · rw [hu.cellAt _ (by omega)]; exact (flatV_get zs k hk).1
    · rw [hu.cellAt _ (by omega)]; exact (flatV_get zs k hk).2.1
    · rw [hu.cellAt _ (by omega)]; exact (flatV_get zs k hk).2.2

theorem check_num (z d : Int) (hd : 0 ≤ d ∧ d < 6) (w : World) : Calls Tryz.prog 172 #[numV' z, .int .i64 d] w fun e w' => e = .returned .nilIface ∧ Below w.heap.size w w' := by
  have h1 : ¬ (6 ≤ d) := by omega
  have h2 : d < 6 := hd.2
  have HB := Lib.hid ((Below.refl w.heap.size w).alloc (Nat.le_refl _) (.cells #[.bool false, .int .i64 z, .slice none 0 0] 53))
  go_enter Tryz.func172, Tryz.ntmps172
  go_wp2_with fail
  refine wp_loop_rounds 1 ?_
  rw [rounds_succ]
  go_wp2_with fail
  go_ret
  exact ⟨rfl, HB.out⟩
set_option maxRecDepth 100000 in
set_option maxHeartbeats 1000000 in
theorem check_list (zs : List Int) (ao : Option Addr) (c : Nat) (hl : zs.length ≤ maxLen) (w : World) (hi : ItemsAt w ao zs) : Calls Tryz.prog 172 #[.agg #[.bool true, .int .i64 0, .slice ao zs.length c], .int .i64 0] w fun e w' => e = .returned .nilIface ∧ Below w.heap.size w w' := by
  have hl' : zs.length ≤ 9223372036854775807 := by unfold maxLen at hl; omega
  obtain ⟨w0, hw0⟩ : ∃ w0, w0 = w.alloc (.cells #[.bool true, .int .i64 0, .slice ao zs.length c] 53) := ⟨_, rfl⟩
  have hb0 : Below w.heap.size w w0 := by rw [hw0]; exact (Below.refl _ _).alloc (Nat.le_refl _) _
  have hi0 := hi.on (Nat.le_refl _) hb0
  obtain ⟨n, hn⟩ : ∃ n, zs.length = n := ⟨_, rfl⟩
  rw [hn] at hw0 hl' ⊢
  have HB0 := Lib.hid hb0
  have HI0 := Lib.hid hi0
  have HW0 := Lib.hid hw0
  clear hi hi0 hb0 hw0
  go_enter Tryz.func172, Tryz.ntmps172
  go_wp2_with fail
  rw [← HW0.out]
  go_loopw [6, 7, 33] (fun _ _ kv wr => ∃ k : Nat, kv = .int .i64 (k : Int) ∧ k ≤ n ∧ RowKit.Hid (Below w.heap.size w wr ∧ ItemsAt wr ao zs)) (fun _ _ kv _ => n - (intOf kv).toNat)
  case atStart => exact ⟨0, rfl, by omega, Lib.hid ⟨HB0.out, HI0.out⟩⟩
  case round =>
    obtain ⟨k, rfl, hk, HK⟩ := hrel
    rcases Nat.lt_or_ge k n with hkn | hkn
    · obtain ⟨b, rfl, h0, h1, h2⟩ := HK.out.2 k (by omega)
      obtain ⟨x, hxe⟩ : ∃ x, zs.getD k 0 = x := ⟨_, rfl⟩
      rw [hxe] at h1
      have hi0' : (0 : Int) ≤ (k : Int) := by omega
      have hi1 : (k : Int) < (n : Int) := by omega
      have hw1 : IntKind.i64.wrap ((k : Int) + 1) = ((k + 1 : Nat) : Int) := by rw [IntWalk.i64_in _ (by omega)]; omega
      obtain ⟨w1, hw1e⟩ : ∃ w1, w1 = wr.alloc (.cells #[.bool false, .int .i64 x, .slice none 0 0] 53) := ⟨_, rfl⟩
      have hbw : Below w.heap.size w w1 := by rw [hw1e]; exact HK.out.1.alloc HK.out.1.size _
      have hiw : ItemsAt w1 (some ⟨b, 0, none⟩) zs := by rw [hw1e]; exact HK.out.2.on (Nat.le_refl _) ((Below.refl _ _).alloc (Nat.le_refl _) _)
      have HC := Lib.hid (check_num x 1 (by omega) w1)
      have HW1 := Lib.hid hw1e
      have HBI := Lib.hid (And.intro hbw hiw)
      rw [hw1e] at HC
      clear hw1e hbw hiw hxe
      go_wp2_with fail
      refine HC.out.mono ?_
      rintro e w3 ⟨rfl, hb3⟩
      rw [← HW1.out] at hb3
      have HB3 := Lib.hid (HBI.out.1.trans (hb3.mono HBI.out.1.size))
      have HI3 := Lib.hid (HBI.out.2.on (Nat.le_refl _) hb3)
      clear hb3
      go_wp2_with fail
      go_roundw
      case rel => exact ⟨k + 1, by go_num, by omega, Lib.hid ⟨HB3.out, HI3.out⟩⟩
      case measure => simp [intOf]; omega
    · obtain rfl : k = n := by omega
      go_wp2_with fail
      go_ret
      exact ⟨rfl, HK.out.1⟩
theorem ValAt.len {w : World} {B : Nat} {v : Value} {zs : List Int} (h : ValAt w B v (.list zs)) : zs.length ≤ maxLen := by
  obtain ⟨u, rfl, hu⟩ := h
  rcases hu.2 with ⟨_, h0⟩ | ⟨g, cap, cur, _, _, _, hcap, hmx, _⟩
  · omega
  · omega
theorem val_check_any (x : V) (v : Value) (B : Nat) (w : World) (hv : ValAt w B v x) : Calls Tryz.prog 169 #[v] w fun e w' => e = .returned .nilIface ∧ Below w.heap.size w w' := by
  obtain ⟨vk, vz, vao, vn, vc, hsh⟩ := hv.shape
  obtain ⟨w0, hw0⟩ : ∃ w0, w0 = w.alloc (.cells #[.bool vk, .int .i64 vz, .slice vao vn vc] 53) := ⟨_, rfl⟩
  have hb0 : Below w.heap.size w w0 := by rw [hw0]; exact (Below.refl _ _).alloc (Nat.le_refl _) _
  have hv0 := hv.below hb0
  have HC := Lib.hid (show Calls Tryz.prog 172 #[v, .int .i64 0] w0 fun e w' => e = .returned .nilIface ∧ Below w0.heap.size w0 w' from by
    cases x with
    | num z => rw [show v = numV' z from hv]; exact check_num z 0 (by omega) w0
    | list zs =>
      obtain ⟨ao, c, h1, h2⟩ := hv0.open
      rw [h1]
      exact check_list zs ao c hv0.len w0 h2)
  rw [hsh] at HC ⊢
  rw [hw0] at HC
  have HW0 := Lib.hid hw0
  have HB0 := Lib.hid hb0
  clear hw0 hb0 hv0 hv
  go_enter Tryz.func169, Tryz.ntmps169
  go_wp2_with fail
  refine HC.out.mono ?_
  rintro e w1 ⟨rfl, hb1⟩
  rw [← HW0.out] at hb1
  have HB1 := Lib.hid (HB0.out.trans (hb1.mono HB0.out.size))
  go_wp2_with fail
  go_ret
  exact ⟨rfl, HB1.out⟩
end Go.Proofs.YtalbllijahiiiaaGreatDoor
