/- rank.count, times, product at an Int. -/
import Derived.Test.YtalbllijahiiiaaGreatDoorDesk13
namespace Go.Proofs.YtalbllijahiiiaaGreatDoor
open Go.RowKit Go.Mine Go.Mine.Desk

theorem rank_count (a b : Int) (hr : (G.int a b).right) (w : World) : Calls Tryz.prog 112 #[intG a b] w fun e w' => e = .returned (.int .i64 (b - a + 1)) ∧ Below w.heap.size w w' := by
  obtain ⟨ha, hb, hab, hba⟩ := id hr
  have hr1 : -1073741824 ≤ a ∧ a ≤ 1073741824 := ha
  obtain ⟨w0, hw0⟩ : ∃ w0, w0 = w.alloc (.cells #[.int .i64 2, .int .i64 a, .int .i64 b, .slice none 0 0] 28) := ⟨_, rfl⟩
  have hb0 : Below w.heap.size w w0 := by rw [hw0]; exact (Below.refl _ _).alloc (Nat.le_refl _) _
  have hc : countX (.int a b) = .tuple #[.int .i64 (b - a + 1), .nilIface] := by unfold countX; rw [if_pos (by show b - a + 1 ≤ 1048576; omega)]; rfl
  have HC := gCount_any (.int a b) (intG a b) hr w0 rfl
  rw [hc] at HC
  have HC := Lib.hid HC
  have HB := Lib.hid hb0
  have HW := Lib.hid hw0
  rw [hw0] at HC
  clear hw0 hb0 hc hr ha hb
  go_enter Tryz.func112, Tryz.ntmps112
  go_wp2_with fail
  refine HC.out.mono ?_
  rintro e w1 ⟨rfl, hb1⟩
  rw [← HW.out] at hb1
  have HB1 := Lib.hid (HB.out.trans (hb1.mono HB.out.size))
  go_wp2_with fail
  go_ret
  exact ⟨rfl, HB1.out⟩
/-- So many Ints. -/
def flatG (a b : Int) (k : Nat) : List Value := (List.replicate k [Value.int .i64 2, .int .i64 a, .int .i64 b, .slice none 0 0]).flatten
theorem flatG_len (a b : Int) : ∀ k, (flatG a b k).length = k * 4
  | 0 => rfl
  | k + 1 => by
    have := flatG_len a b k
    simp only [flatG, List.replicate_succ, List.flatten_cons, List.length_append, List.length_cons, List.length_nil] at this ⊢
    omega
theorem flatG_snoc (a b : Int) (k : Nat) : flatG a b (k + 1) = flatG a b k ++ [.int .i64 2, .int .i64 a, .int .i64 b, .slice none 0 0] := by
  simp [flatG, List.replicate_succ']
theorem flatG_get (a b : Int) : ∀ (n k : Nat), k < n → (flatG a b n)[k * 4]? = some (.int .i64 2) ∧ (flatG a b n)[k * 4 + 1]? = some (.int .i64 a) ∧ (flatG a b n)[k * 4 + 2]? = some (.int .i64 b) ∧ (flatG a b n)[k * 4 + 3]? = some (.slice none 0 0)
  | 0, k, h => by omega
  | n + 1, 0, _ => ⟨rfl, rfl, rfl, rfl⟩
  | n + 1, k + 1, h => by
    have ih := flatG_get a b n k (by omega)
    have e : flatG a b (n + 1) = [.int .i64 2, .int .i64 a, .int .i64 b, .slice none 0 0] ++ flatG a b n := rfl
    rw [e, Nat.succ_mul]
    refine ⟨?_, ?_, ?_, ?_⟩
    · rw [List.getElem?_append_right (by simp)]; simpa using ih.1
    · rw [List.getElem?_append_right (by simp)]; simpa [show k * 4 + 4 + 1 - 4 = k * 4 + 1 by omega] using ih.2.1
    · rw [List.getElem?_append_right (by simp)]; simpa [show k * 4 + 4 + 2 - 4 = k * 4 + 2 by omega] using ih.2.2.1
    · rw [List.getElem?_append_right (by simp)]; simpa [show k * 4 + 4 + 3 - 4 = k * 4 + 3 by omega] using ih.2.2.2
/-- So many Ints, read. -/
def RunAt (w : World) (ao : Option Addr) (a b : Int) (n : Nat) : Prop := ∀ k, k < n → ∃ g o, ao = some ⟨g, o, none⟩ ∧ w.cell? ⟨g, o + k * 4, none⟩ = some (.int .i64 2) ∧ w.cell? ⟨g, o + k * 4 + 1, none⟩ = some (.int .i64 a) ∧ w.cell? ⟨g, o + k * 4 + 2, none⟩ = some (.int .i64 b) ∧ w.cell? ⟨g, o + k * 4 + 3, none⟩ = some (.slice none 0 0)
theorem RunAt.on {w w' : World} {ao : Option Addr} {a b : Int} {n : Nat} (h : RunAt w ao a b n) {B : Nat} (hB : w.heap.size ≤ B) (hb : Below B w w') : RunAt w' ao a b n := fun k hk => by
  obtain ⟨g, o, h0, h1, h2, h3, h4⟩ := h k hk
  have hl := World.block_lt_of_cell? w _ h1
  exact ⟨g, o, h0, (hb.cell (by exact Nat.lt_of_lt_of_le hl hB)).trans h1, (hb.cell (by exact Nat.lt_of_lt_of_le hl hB)).trans h2, (hb.cell (by exact Nat.lt_of_lt_of_le hl hB)).trans h3, (hb.cell (by exact Nat.lt_of_lt_of_le hl hB)).trans h4⟩
theorem RunAt.of_owns {w : World} {base n cap : Nat} {ao : Option Addr} {a b : Int} (h : w.ownsRow base 28 4 (.slice ao n cap) n (flatG a b n)) : RunAt w ao a b n := fun k hk => by
  rcases h.2 with ⟨_, h0⟩ | ⟨g, cap', cur, h1, _⟩
  · omega
  · simp only [Value.slice.injEq] at h1
    obtain ⟨rfl, _, rfl⟩ := h1
    obtain ⟨q0, q1, q2, q3⟩ := flatG_get a b n k hk
    refine ⟨g, 0, rfl, ?_, ?_, ?_, ?_⟩
    · rw [Nat.zero_add, h.cellAt _ (by omega), q0]
    · rw [Nat.zero_add, h.cellAt _ (by omega), q1]
    · rw [Nat.zero_add, h.cellAt _ (by omega), q2]
    · rw [Nat.zero_add, h.cellAt _ (by omega), q3]
theorem infoGen : (Tryz.prog.info? 28).map (fun i => (i.zero, i.size, i.bytes)) = some (some (.agg #[.int .i64 0, .int .i64 0, .int .i64 0, .slice none 0 0]), 4, 48) := by kernel_rfl
theorem one4 (a b : Int) : ∀ u ∈ ([.int .i64 2, .int .i64 a, .int .i64 b, .slice none 0 0] : List Value), u.oneCell' = true := by simp [Value.oneCell']
set_option maxRecDepth 100000 in
set_option maxHeartbeats 1000000 in
theorem times_any (a b : Int) (n : Nat) (hn : n ≤ 5) (w : World) : Calls Tryz.prog 113 #[intG a b, .int .i64 (n : Int)] w fun e w' => (∃ u, e = .returned u ∧ w'.ownsRow w.heap.size 28 4 u n (flatG a b n)) ∧ Below w.heap.size w w' := by
  obtain ⟨i0, hi0, hz0, hz1, hz2⟩ := info_parts infoGen
  obtain ⟨w0, hw0⟩ : ∃ w0, w0 = w.alloc (.cells #[.int .i64 2, .int .i64 a, .int .i64 b, .slice none 0 0] 28) := ⟨_, rfl⟩
  have hb0 : Below w.heap.size w w0 := by rw [hw0]; exact (Below.refl _ _).alloc (Nat.le_refl _) _
  have k0 : Blk w0 w.heap.size 28 #[.int .i64 2, .int .i64 a, .int .i64 b, .slice none 0 0] := by rw [hw0]; exact Blk.new _ _ _
  have HB0 := Lib.hid (And.intro hb0 k0)
  have HW := Lib.hid hw0
  obtain ⟨B, hB⟩ : ∃ B, w.heap.size = B := ⟨_, rfl⟩
  clear hw0 hb0 k0
  go_enter Tryz.func113, Tryz.ntmps113
  go_wp2_with fail
  rw [← HW.out]
  go_loopw [5, 7] (fun tv kv wr => ∃ k : Nat, kv = .int .i64 (k : Int) ∧ k ≤ n ∧ RowKit.Hid (Below w.heap.size w wr ∧ Blk wr w.heap.size 28 #[.int .i64 2, .int .i64 a, .int .i64 b, .slice none 0 0] ∧ wr.ownsRow (w.heap.size + 1) 28 4 tv k (flatG a b k))) (fun _ kv _ => n - (intOf kv).toNat)
  case atStart => exact ⟨0, rfl, by omega, Lib.hid ⟨HB0.out.1, HB0.out.2, World.ownsRow_nil _ _ _ _⟩⟩
  case round =>
    obtain ⟨k, rfl, hk, HK⟩ := hrel
    rcases Nat.lt_or_ge k n with hkn | hkn
    · have c0 : wr.cell? ⟨B, 0, none⟩ = some (.int .i64 2) := by rw [← hB]; exact HK.out.2.1.cell 0
      have c1 : wr.cell? ⟨B, 1, none⟩ = some (.int .i64 a) := by rw [← hB]; exact HK.out.2.1.cell 1
      have c2 : wr.cell? ⟨B, 2, none⟩ = some (.int .i64 b) := by rw [← hB]; exact HK.out.2.1.cell 2
      have c3 : wr.cell? ⟨B, 3, none⟩ = some (.slice none 0 0) := by rw [← hB]; exact HK.out.2.1.cell 3
      have hi1 : (k : Int) < (n : Int) := by omega
      have hsz := HK.out.2.1.lt
      rw [hB] at hsz
      have HO := Lib.hid HK.out.2.2
      rw [hB] at HO
      go_wp2_with (at_builtin; refine wpList_push2 _ rfl _ _ 26 rfl (B + 1) 28 i0 _ 4 48 Tryz.underlying26 hi0 hz0 hz1 hz2 rfl (by decide) _ _ _ rfl (HO.out.alloc _) ⟨wr.heap.size, 0, none⟩ 1 [.int .i64 2, .int .i64 a, .int .i64 b, .slice none 0 0] rfl rfl (World.news_of_block (cs := #[.int .i64 2, .int .i64 a, .int .i64 b, .slice none 0 0]) (t := 28) (fr := (0, 0)) (heap_alloc_at _ _ rfl)) (one4 _ _) (by unfold maxLen; omega) (by omega) (by simp; omega) ?_)
      intro g cap w7 hown hgr hat7
      have hbw := HK.out.1
      have hbk := HK.out.2.1
      rw [hB] at hbw hbk
      have HB7 := Lib.hid ((hbw.alloc (by omega) (.cells #[.int .i64 2, .int .i64 a, .int .i64 b, .slice none 0 0] 28)).grown hgr (by simp; omega) (fun q hq => by have := (HO.out.lt q hq).1; omega))
      have HK7 := Lib.hid (show Blk w7 B 28 #[.int .i64 2, .int .i64 a, .int .i64 b, .slice none 0 0] from (hbk.alloc _).same (hgr.block B (by simp; omega) (fun e => by have := (HO.out.lt B e.symm).1; omega)))
      have HO7 := Lib.hid (show w7.ownsRow (B + 1) 28 4 (.slice (some ⟨g, 0, none⟩) (k + 1) cap) (k + 1) (flatG a b (k + 1)) by rw [flatG_snoc]; exact hown)
      have hw1 : IntKind.i64.wrap ((k : Int) + 1) = ((k + 1 : Nat) : Int) := by rw [IntWalk.i64_in _ (by omega)]; omega
      clear hown hgr hat7 hbw hbk
      go_wp2_with fail
      go_roundw
      case rel => exact ⟨k + 1, by go_num, by omega, Lib.hid ⟨by rw [hB]; exact HB7.out, by rw [hB]; exact HK7.out, by rw [hB]; exact HO7.out⟩⟩
      case measure => simp [intOf]; omega
    · obtain rfl : k = n := by omega
      go_wp2_with fail
      go_ret
      exact ⟨⟨_, rfl, HK.out.2.2.mono (by omega)⟩, HK.out.1⟩
theorem pow_b {c : Int} (h0 : 0 ≤ c) (h1 : c ≤ 1001) : ∀ k : Nat, 0 ≤ c ^ k ∧ c ^ k ≤ 1001 ^ k
  | 0 => by simp
  | k + 1 => by
    obtain ⟨q0, q1⟩ := pow_b h0 h1 k
    rw [Int.pow_succ, Int.pow_succ]
    exact ⟨Int.mul_nonneg q0 h0, Int.mul_le_mul q1 h1 h0 (by have : (0 : Int) ≤ 1001 ^ k := Int.pow_nonneg (by decide); exact this)⟩
theorem pow_le {c : Int} (h0 : 0 ≤ c) (h1 : c ≤ 1001) {k : Nat} (hk : k ≤ 5) : 0 ≤ c ^ k ∧ c ^ k ≤ 1005010010005001 := by
  obtain ⟨q0, q1⟩ := pow_b h0 h1 k
  refine ⟨q0, Int.le_trans q1 ?_⟩
  have : k = 0 ∨ k = 1 ∨ k = 2 ∨ k = 3 ∨ k = 4 ∨ k = 5 := by omega
  rcases this with rfl | rfl | rfl | rfl | rfl | rfl <;> decide
set_option maxRecDepth 100000 in
set_option maxHeartbeats 1000000 in
theorem product_any (a b : Int) (n : Nat) (hn : n ≤ 5) (hr : (G.int a b).right) (ao : Option Addr) (cp : Nat) (w : World) (hrun : RunAt w ao a b n) : Calls Tryz.prog 82 #[.slice ao n cp] w fun e w' => e = .returned (.int .i64 ((b - a + 1) ^ n)) ∧ Below w.heap.size w w' := by
  obtain ⟨ha, hb, hab, hba⟩ := id hr
  obtain ⟨c, hc⟩ : ∃ c, c = b - a + 1 := ⟨_, rfl⟩
  have hc0 : 0 ≤ c := by omega
  have hc1 : c ≤ 1001 := by omega
  have HR := Lib.hid hr
  rw [← hc]
  clear hr ha hb
  go_enter Tryz.func82, Tryz.ntmps82
  go_wp2_with fail
  go_loopw [3, 5, 8] (fun pv _ kv wr => ∃ k : Nat, kv = .int .i64 (k : Int) ∧ k ≤ n ∧ pv = .int .i64 (c ^ k) ∧ RowKit.Hid (Below w.heap.size w wr ∧ RunAt wr ao a b n)) (fun _ _ kv _ => n - (intOf kv).toNat)
  case atStart => exact ⟨0, rfl, by omega, by simp, Lib.hid ⟨Below.refl _ _, hrun⟩⟩
  case round =>
    obtain ⟨k, rfl, hk, rfl, HK⟩ := hrel
    rcases Nat.lt_or_ge k n with hkn | hkn
    · obtain ⟨g, o, rfl, h0, h1, h2, h3⟩ := HK.out.2 k hkn
      have hi0' : (0 : Int) ≤ (k : Int) := by omega
      have hi1 : (k : Int) < (n : Int) := by omega
      have hw1 : IntKind.i64.wrap ((k : Int) + 1) = ((k + 1 : Nat) : Int) := by rw [IntWalk.i64_in _ (by omega)]; omega
      have hpp := pow_le hc0 hc1 (show k + 1 ≤ 5 by omega)
      obtain ⟨p, hp⟩ : ∃ p, p = c ^ k := ⟨_, rfl⟩
      rw [Int.pow_succ, ← hp] at hpp
      have hw2 : IntKind.i64.wrap (p * c) = p * c := IntWalk.i64_in _ (by omega)
      have hw3 : wrap64 (p * c) = p * c := by unfold wrap64; omega
      have HP := Lib.hid (show p * c = c ^ (k + 1) by rw [Int.pow_succ, hp])
      rw [← hp]
      obtain ⟨w1, hw1e⟩ : ∃ w1, w1 = wr.alloc (.cells #[.int .i64 2, .int .i64 a, .int .i64 b, .slice none 0 0] 28) := ⟨_, rfl⟩
      have hbw : Below w.heap.size w w1 := by rw [hw1e]; exact HK.out.1.alloc HK.out.1.size _
      have hiw : RunAt w1 (some ⟨g, o, none⟩) a b n := by rw [hw1e]; exact HK.out.2.on (Nat.le_refl _) ((Below.refl _ _).alloc (Nat.le_refl _) _)
      have HC := Lib.hid (rank_count a b HR.out w1)
      have HW1 := Lib.hid hw1e
      have HBI := Lib.hid (And.intro hbw hiw)
      rw [hw1e, ← hc] at HC
      clear hw1e hbw hiw hp hpp hrun
      go_wp2_with fail
      refine HC.out.mono ?_
      clear HC
      rintro e w3 ⟨rfl, hb3⟩
      rw [← HW1.out] at hb3
      have HB3 := Lib.hid (HBI.out.1.trans (hb3.mono HBI.out.1.size))
      have HI3 := Lib.hid (HBI.out.2.on (Nat.le_refl _) hb3)
      clear hb3
      go_wp2_with fail
      go_roundw
      case rel => exact ⟨k + 1, by go_num, by omega, by rw [← HP.out, ← hc]; exact congrArg (Value.int .i64) hw3, Lib.hid ⟨HB3.out, HI3.out⟩⟩
      case measure => simp [intOf]; omega
    · obtain rfl : k = n := by omega
      obtain ⟨p, hp⟩ : ∃ p, p = c ^ k := ⟨_, rfl⟩
      rw [← hp]
      have HPP := Lib.hid hp
      clear hp hrun
      go_wp2_with fail
      go_ret
      exact ⟨by rw [← HPP.out]; rfl, HK.out.1⟩
end Go.Proofs.YtalbllijahiiiaaGreatDoor
