/- val.Check, val.Text at a desk's values. val.Text at a desk's values. rank.count, times, product at an Int. -/
import Derived.Test.YtalbllijahiiiaaGreatDoorDkAE
section
namespace Go.Proofs.YtalbllijahiiiaaGreatDoor
open Go.RowKit Go.Mine Go.Mine.Desk

theorem flatV_get : ∀ (zs : List Int) (k : Nat), k < zs.length → (flatV zs)[k * 3]? = some (.bool false) ∧ (flatV zs)[k * 3 + 1]? = some (.int .i64 (zs.getD k 0)) ∧ (flatV zs)[k * 3 + 2]? = some (.slice none 0 0)
  | [], k, h => by simp at h
  | z :: zs, 0, _ => ⟨rfl, rfl, rfl⟩
  | z :: zs, k + 1, h => by
    have ih := flatV_get zs k (by simpa using h)
    have e : flatV (z :: zs) = [.bool false, .int .i64 z, .slice none 0 0] ++ flatV zs := rfl
    rw [e, Nat.succ_mul]
    refine ⟨?_, ?_, ?_⟩
    · rw [List.getElem?_append_right (by simp)]; simpa using ih.1
    · rw [List.getElem?_append_right (by simp)]; simpa [show k * 3 + 3 + 1 - 3 = k * 3 + 1 by omega] using ih.2.1
    · rw [List.getElem?_append_right (by simp)]; simpa [show k * 3 + 3 + 2 - 3 = k * 3 + 2 by omega] using ih.2.2
def ItemsAt (w : World) (ao : Option Addr) (zs : List Int) : Prop := ∀ k, k < zs.length → ∃ b, ao = some ⟨b, 0, none⟩ ∧ w.cell? ⟨b, k * 3, none⟩ = some (.bool false) ∧ w.cell? ⟨b, k * 3 + 1, none⟩ = some (.int .i64 (zs.getD k 0)) ∧ w.cell? ⟨b, k * 3 + 2, none⟩ = some (.slice none 0 0)
theorem ItemsAt.on {w w' : World} {ao : Option Addr} {zs : List Int} (h : ItemsAt w ao zs) {B : Nat} (hB : w.heap.size ≤ B) (hb : Below B w w') : ItemsAt w' ao zs := fun k hk => by
  obtain ⟨b, h0, h1, h2, h3⟩ := h k hk
  have hl := World.block_lt_of_cell? w _ h1
  exact ⟨b, h0, (hb.cell (by exact Nat.lt_of_lt_of_le hl hB)).trans h1, (hb.cell (by exact Nat.lt_of_lt_of_le hl hB)).trans h2, (hb.cell (by exact Nat.lt_of_lt_of_le hl hB)).trans h3⟩
theorem ValAt.open {w : World} {B : Nat} {v : Value} {zs : List Int} (h : ValAt w B v (.list zs)) : ∃ ao c, v = .agg #[.bool true, .int .i64 0, .slice ao zs.length c] ∧ ItemsAt w ao zs := by
  obtain ⟨u, rfl, hu⟩ := h
  rcases hu.2 with ⟨rfl, h0⟩ | ⟨g, cap, cur, rfl, hg, hbk, hcap, hmx, hsz, htk⟩
  · exact ⟨none, 0, by rw [h0], fun k hk => by omega⟩
  · refine ⟨some ⟨g, 0, none⟩, cap, rfl, fun k hk => ⟨g, rfl, ?_, ?_, ?_⟩⟩
    · rw [hu.cellAt _ (by omega)]; exact (flatV_get zs k hk).1
    · rw [hu.cellAt _ (by omega)]; exact (flatV_get zs k hk).2.1
    · rw [hu.cellAt _ (by omega)]; exact (flatV_get zs k hk).2.2

theorem check_num (z d : Int) (hd : 0 ≤ d ∧ d < 6) (w : World) : Calls Tryz.prog 172 #[numV' z, .int .i64 d] w fun e w' => e = .returned .nilIface ∧ Below w.heap.size w w' := by
  have h1 : ¬ (6 ≤ d) := by omega
  have h2 : d < 6 := hd.2
  have HB := Lib.hid ((Below.refl w.heap.size w).alloc (Nat.le_refl _) (.cells #[.bool false, .int .i64 z, .slice none 0 0] 53))
  go_enter Tryz.func172, Tryz.ntmps172
  go_wp2_with fail
  refine wp_loop_rounds 1 ?_
  rw [rounds_succ]
  go_wp2_with fail
  go_ret
  exact ⟨rfl, HB.out⟩
set_option maxRecDepth 100000 in
set_option maxHeartbeats 1000000 in
theorem check_list (zs : List Int) (ao : Option Addr) (c : Nat) (hl : zs.length ≤ maxLen) (w : World) (hi : ItemsAt w ao zs) : Calls Tryz.prog 172 #[.agg #[.bool true, .int .i64 0, .slice ao zs.length c], .int .i64 0] w fun e w' => e = .returned .nilIface ∧ Below w.heap.size w w' := by
  have hl' : zs.length ≤ 9223372036854775807 := by unfold maxLen at hl; omega
  obtain ⟨w0, hw0⟩ : ∃ w0, w0 = w.alloc (.cells #[.bool true, .int .i64 0, .slice ao zs.length c] 53) := ⟨_, rfl⟩
  have hb0 : Below w.heap.size w w0 := by rw [hw0]; exact (Below.refl _ _).alloc (Nat.le_refl _) _
  have hi0 := hi.on (Nat.le_refl _) hb0
  obtain ⟨n, hn⟩ : ∃ n, zs.length = n := ⟨_, rfl⟩
  rw [hn] at hw0 hl' ⊢
  have HB0 := Lib.hid hb0
  have HI0 := Lib.hid hi0
  have HW0 := Lib.hid hw0
  clear hi hi0 hb0 hw0
  go_enter Tryz.func172, Tryz.ntmps172
  go_wp2_with fail
  rw [← HW0.out]
  go_loopw [6, 7, 33] (fun _ _ kv wr => ∃ k : Nat, kv = .int .i64 (k : Int) ∧ k ≤ n ∧ RowKit.Hid (Below w.heap.size w wr ∧ ItemsAt wr ao zs)) (fun _ _ kv _ => n - (intOf kv).toNat)
  case atStart => exact ⟨0, rfl, by omega, Lib.hid ⟨HB0.out, HI0.out⟩⟩
  case round =>
    obtain ⟨k, rfl, hk, HK⟩ := hrel
    rcases Nat.lt_or_ge k n with hkn | hkn
    · obtain ⟨b, rfl, h0, h1, h2⟩ := HK.out.2 k (by omega)
      obtain ⟨x, hxe⟩ : ∃ x, zs.getD k 0 = x := ⟨_, rfl⟩
      rw [hxe] at h1
      have hi0' : (0 : Int) ≤ (k : Int) := by omega
      have hi1 : (k : Int) < (n : Int) := by omega
      have hw1 : IntKind.i64.wrap ((k : Int) + 1) = ((k + 1 : Nat) : Int) := by rw [IntWalk.i64_in _ (by omega)]; omega
      obtain ⟨w1, hw1e⟩ : ∃ w1, w1 = wr.alloc (.cells #[.bool false, .int .i64 x, .slice none 0 0] 53) := ⟨_, rfl⟩
      have hbw : Below w.heap.size w w1 := by rw [hw1e]; exact HK.out.1.alloc HK.out.1.size _
      have hiw : ItemsAt w1 (some ⟨b, 0, none⟩) zs := by rw [hw1e]; exact HK.out.2.on (Nat.le_refl _) ((Below.refl _ _).alloc (Nat.le_refl _) _)
      have HC := Lib.hid (check_num x 1 (by omega) w1)
      have HW1 := Lib.hid hw1e
      have HBI := Lib.hid (And.intro hbw hiw)
      rw [hw1e] at HC
      clear hw1e hbw hiw hxe
      go_wp2_with fail
      refine HC.out.mono ?_
      rintro e w3 ⟨rfl, hb3⟩
      rw [← HW1.out] at hb3
      have HB3 := Lib.hid (HBI.out.1.trans (hb3.mono HBI.out.1.size))
      have HI3 := Lib.hid (HBI.out.2.on (Nat.le_refl _) hb3)
      clear hb3
      go_wp2_with fail
      go_roundw
      case rel => exact ⟨k + 1, by go_num, by omega, Lib.hid ⟨HB3.out, HI3.out⟩⟩
      case measure => simp [intOf]; omega
    · obtain rfl : k = n := by omega
      go_wp2_with fail
      go_ret
      exact ⟨rfl, HK.out.1⟩
theorem ValAt.len {w : World} {B : Nat} {v : Value} {zs : List Int} (h : ValAt w B v (.list zs)) : zs.length ≤ maxLen := by
  obtain ⟨u, rfl, hu⟩ := h
  rcases hu.2 with ⟨_, h0⟩ | ⟨g, cap, cur, _, _, _, hcap, hmx, _⟩
  · omega
  · omega
theorem val_check_any (x : V) (v : Value) (B : Nat) (w : World) (hv : ValAt w B v x) : Calls Tryz.prog 169 #[v] w fun e w' => e = .returned .nilIface ∧ Below w.heap.size w w' := by
  obtain ⟨vk, vz, vao, vn, vc, hsh⟩ := hv.shape
  obtain ⟨w0, hw0⟩ : ∃ w0, w0 = w.alloc (.cells #[.bool vk, .int .i64 vz, .slice vao vn vc] 53) := ⟨_, rfl⟩
  have hb0 : Below w.heap.size w w0 := by rw [hw0]; exact (Below.refl _ _).alloc (Nat.le_refl _) _
  have hv0 := hv.below hb0
  have HC := Lib.hid (show Calls Tryz.prog 172 #[v, .int .i64 0] w0 fun e w' => e = .returned .nilIface ∧ Below w0.heap.size w0 w' from by
    cases x with
    | num z => rw [show v = numV' z from hv]; exact check_num z 0 (by omega) w0
    | list zs =>
      obtain ⟨ao, c, h1, h2⟩ := hv0.open
      rw [h1]
      exact check_list zs ao c hv0.len w0 h2)
  rw [hsh] at HC ⊢
  rw [hw0] at HC
  have HW0 := Lib.hid hw0
  have HB0 := Lib.hid hb0
  clear hw0 hb0 hv0 hv
  go_enter Tryz.func169, Tryz.ntmps169
  go_wp2_with fail
  refine HC.out.mono ?_
  rintro e w1 ⟨rfl, hb1⟩
  rw [← HW0.out] at hb1
  have HB1 := Lib.hid (HB0.out.trans (hb1.mono HB0.out.size))
  go_wp2_with fail
  go_ret
  exact ⟨rfl, HB1.out⟩
end Go.Proofs.YtalbllijahiiiaaGreatDoor
end

section
namespace Go.Proofs.YtalbllijahiiiaaGreatDoor
open Go.RowKit Go.Mine Go.Mine.Desk

theorem vtext_num (z : Int) (hz : i64ok z) (w : World) (hg : Gl w) : Calls Tryz.prog 56 #[numV' z] w fun e w' => e = .returned (str (Go.Lib.itoa z)) ∧ Below w.heap.size w w' := by
  obtain ⟨w0, hw0⟩ : ∃ w0, w0 = w.alloc (.cells #[.bool false, .int .i64 z, .slice none 0 0] 53) := ⟨_, rfl⟩
  have hb0 : Below w.heap.size w w0 := by rw [hw0]; exact (Below.refl _ _).alloc (Nat.le_refl _) _
  have HC := Lib.hid (itoa_any z hz w0 (hg.on hb0))
  have HB := Lib.hid hb0
  have HW := Lib.hid hw0
  rw [hw0] at HC
  clear hw0 hb0
  go_enter Tryz.func56, Tryz.ntmps56
  go_wp2_with fail
  refine HC.out.mono ?_
  rintro e w1 ⟨rfl, hb1⟩
  rw [← HW.out] at hb1
  have HB1 := Lib.hid (HB.out.trans (hb1.mono HB.out.size))
  go_wp2_with fail
  go_ret
  exact ⟨rfl, HB1.out⟩
set_option maxRecDepth 100000 in
set_option maxHeartbeats 1000000 in
theorem vtext_list (zs : List Int) (ao : Option Addr) (c : Nat) (hl : zs.length ≤ 2000000) (hz : ∀ z ∈ zs, i64ok z) (w : World) (hg : Gl w) (hi : ItemsAt w ao zs) : Calls Tryz.prog 56 #[.agg #[.bool true, .int .i64 0, .slice ao zs.length c]] w fun e w' => e = .returned (str (vtext (.list zs))) ∧ Below w.heap.size w w' := by
  obtain ⟨i0, hi0, hz0, hz1, hz2⟩ := info_parts infoStr
  obtain ⟨w0, hw0⟩ : ∃ w0, w0 = w.alloc (.cells #[.bool true, .int .i64 0, .slice ao zs.length c] 53) := ⟨_, rfl⟩
  have hb0 : Below w.heap.size w w0 := by rw [hw0]; exact (Below.refl _ _).alloc (Nat.le_refl _) _
  have hi0w := hi.on (Nat.le_refl _) hb0
  obtain ⟨n, hn⟩ : ∃ n, zs.length = n := ⟨_, rfl⟩
  rw [hn] at hw0 hl ⊢
  have HB0 := Lib.hid hb0
  have HI0 := Lib.hid hi0w
  have HW0 := Lib.hid hw0
  have HG := Lib.hid hg
  clear hi0w hb0 hw0 hg
  go_enter Tryz.func56, Tryz.ntmps56
  go_wp2_with fail
  rw [← HW0.out]
  go_loopw [3, 5, 15] (fun tv _ kv wr => ∃ k : Nat, kv = .int .i64 (k : Int) ∧ k ≤ n ∧ RowKit.Hid (Below w.heap.size w wr ∧ ItemsAt wr ao zs ∧ wr.ownsRow w.heap.size 9 1 tv k (((zs.take k).map Go.Lib.itoa).map str))) (fun _ _ kv _ => n - (intOf kv).toNat)
  case atStart => exact ⟨0, rfl, by omega, Lib.hid ⟨HB0.out, HI0.out, World.ownsRow_nil _ _ _ _⟩⟩
  case round =>
    obtain ⟨k, rfl, hk, HK⟩ := hrel
    rcases Nat.lt_or_ge k n with hkn | hkn
    · obtain ⟨b, rfl, h0, h1, h2⟩ := HK.out.2.1 k (by omega)
      have hmem : zs[k]? = some (zs.getD k 0) := by simp [show k < zs.length by omega]
      obtain ⟨x, hxe⟩ : ∃ x, zs.getD k 0 = x := ⟨_, rfl⟩
      rw [hxe] at h1 hmem
      have hi0' : (0 : Int) ≤ (k : Int) := by omega
      have hi1 : (k : Int) < (n : Int) := by omega
      have hw1 : IntKind.i64.wrap ((k : Int) + 1) = ((k + 1 : Nat) : Int) := by rw [IntWalk.i64_in _ (by omega)]; omega
      obtain ⟨w1, hw1e⟩ : ∃ w1, w1 = wr.alloc (.cells #[.bool false, .int .i64 x, .slice none 0 0] 53) := ⟨_, rfl⟩
      have hbw : Below w.heap.size w w1 := by rw [hw1e]; exact HK.out.1.alloc HK.out.1.size _
      have hiw : ItemsAt w1 (some ⟨b, 0, none⟩) zs := by rw [hw1e]; exact HK.out.2.1.on (Nat.le_refl _) ((Below.refl _ _).alloc (Nat.le_refl _) _)
      have hrw := HK.out.2.2.alloc (.cells #[.bool false, .int .i64 x, .slice none 0 0] 53)
      rw [← hw1e] at hrw
      have HC := Lib.hid (vtext_num x (hz x (List.mem_of_getElem? hmem)) w1 (HG.out.on hbw))
      have HW1 := Lib.hid hw1e
      have HBI := Lib.hid (And.intro hbw (And.intro hiw hrw))
      have HM := Lib.hid hmem
      rw [hw1e] at HC
      clear hw1e hbw hiw hrw hxe hmem
      go_wp2_with fail
      refine HC.out.mono ?_
      clear HC
      rintro e w3 ⟨rfl, hb3⟩
      rw [← HW1.out] at hb3
      have HB3 := Lib.hid (HBI.out.1.trans (hb3.mono HBI.out.1.size))
      have HI3 := Lib.hid (HBI.out.2.1.on (Nat.le_refl _) hb3)
      have HO := Lib.hid (owns_below HBI.out.2.2 hb3)
      have hsz := HB3.out.size
      clear hb3
      go_wp2_with (at_builtin; refine wpList_push2 _ rfl _ _ 23 rfl w.heap.size 9 i0 (.string ⟨#[]⟩) 1 16 Tryz.underlying23 hi0 hz0 hz1 hz2 rfl (by decide) _ _ _ rfl (HO.out.alloc _) ⟨w3.heap.size, 0, none⟩ 1 [str (Go.Lib.itoa x)] rfl rfl (World.news_of_block (cs := #[str (Go.Lib.itoa x)]) (t := 9) (fr := (0, 0)) (heap_alloc_at _ _ rfl)) (str1 _) (by unfold maxLen; omega) (by omega) (by simp; omega) ?_)
      intro g cap w7 hown hgr hat7
      have hb7 := (HB3.out.alloc hsz (.cells #[str (Go.Lib.itoa x)] 9)).grown hgr (by simp; omega) (fun q hq => (HO.out.lt q hq).1)
      have HB7 := Lib.hid hb7
      have HI7 := Lib.hid (show ItemsAt w7 (some ⟨b, 0, none⟩) zs from fun q hq => by
        obtain ⟨b', e0, q1, q2, q3⟩ := HI3.out q hq
        have hbl : b' < w3.heap.size := World.block_lt_of_cell? w3 _ q1
        have hbw : ∀ o, w7.cell? ⟨b', o, none⟩ = w3.cell? ⟨b', o, none⟩ := fun o => World.cell?_of_block (by
          show w7.heap[b']? = w3.heap[b']?
          rw [hgr.block b' (by simp; omega) (fun e => by
            have h5 := (HO.out.lt b' e.symm).1
            obtain ⟨b0, e1, q4, _⟩ := hi q hq
            cases e0; cases e1
            have := World.block_lt_of_cell? w _ q4
            simp at this; omega), Below.heap_alloc w3 _ b' hbl])
        exact ⟨b', e0, (hbw _).trans q1, (hbw _).trans q2, (hbw _).trans q3⟩)
      have HO7 := Lib.hid (show w7.ownsRow w.heap.size 9 1 (.slice (some ⟨g, 0, none⟩) (k + 1) cap) (k + 1) (((zs.take (k + 1)).map Go.Lib.itoa).map str) by
        rw [List.take_add_one, HM.out]
        simpa using hown)
      clear hown hgr hat7 hb7
      go_wp2_with fail
      go_roundw
      case rel => exact ⟨k + 1, by go_num, by omega, Lib.hid ⟨HB7.out, HI7.out, HO7.out⟩⟩
      case measure => simp [intOf]; omega
    · obtain rfl : k = n := by omega
      have hO := HK.out.2.2
      rw [List.take_of_length_le (by omega)] at hO
      have HC := Lib.hid (join_any (zs.map Go.Lib.itoa) 32 _ _ 21 (by omega) (by simp; omega) (text_len hz) wr (by rw [List.length_map, hn]; exact hO))
      go_wp2_with fail
      refine HC.out.mono ?_
      rintro e w3 ⟨rfl, hb3⟩
      have HB := Lib.hid (HK.out.1.trans (hb3.mono HK.out.1.size))
      have hjl := join_len (c := 32) (zs.map Go.Lib.itoa) (text_len hz)
      rw [List.length_map] at hjl
      have hj1 : ¬ 9223372036854775807 < 1 + (Go.Lib.join (zs.map Go.Lib.itoa) [32]).length := by omega
      have hj2 : ¬ 9223372036854775807 < 1 + (Go.Lib.join (zs.map Go.Lib.itoa) [32]).length + 1 := by omega
      clear hjl
      go_wp2_with fail
      go_ret
      exact ⟨by simp [vtext, ByteArray.mk_append_mk], HB.out⟩
theorem vtext_any (x : V) (v : Value) (B : Nat) (w : World) (hg : Gl w) (hv : ValAt w B v x) (hx : match x with | .num z => i64ok z | .list zs => zs.length ≤ 2000000 ∧ ∀ z ∈ zs, i64ok z) : Calls Tryz.prog 56 #[v] w fun e w' => e = .returned (str (vtext x)) ∧ Below w.heap.size w w' := by
  cases x with
  | num z => rw [show v = numV' z from hv]; exact vtext_num z hx w hg
  | list zs =>
    obtain ⟨ao, c, h1, h2⟩ := hv.open
    rw [h1]
    exact vtext_list zs ao c hx.1 hx.2 w hg h2
end Go.Proofs.YtalbllijahiiiaaGreatDoor
end

section
namespace Go.Proofs.YtalbllijahiiiaaGreatDoor
open Go.RowKit Go.Mine Go.Mine.Desk

theorem rank_count (a b : Int) (hr : (G.int a b).right) (w : World) : Calls Tryz.prog 112 #[intG a b] w fun e w' => e = .returned (.int .i64 (b - a + 1)) ∧ Below w.heap.size w w' := by
  obtain ⟨ha, hb, hab, hba⟩ := id hr
  have hr1 : -1073741824 ≤ a ∧ a ≤ 1073741824 := ha
  obtain ⟨w0, hw0⟩ : ∃ w0, w0 = w.alloc (.cells #[.int .i64 2, .int .i64 a, .int .i64 b, .slice none 0 0] 28) := ⟨_, rfl⟩
  have hb0 : Below w.heap.size w w0 := by rw [hw0]; exact (Below.refl _ _).alloc (Nat.le_refl _) _
  have hc : countX (.int a b) = .tuple #[.int .i64 (b - a + 1), .nilIface] := by unfold countX; rw [if_pos (by show b - a + 1 ≤ 1048576; omega)]; rfl
  have HC := gCount_any (.int a b) (intG a b) hr w0 rfl
  rw [hc] at HC
  have HC := Lib.hid HC
  have HB := Lib.hid hb0
  have HW := Lib.hid hw0
  rw [hw0] at HC
  clear hw0 hb0 hc hr ha hb
  go_enter Tryz.func112, Tryz.ntmps112
  go_wp2_with fail
  refine HC.out.mono ?_
  rintro e w1 ⟨rfl, hb1⟩
  rw [← HW.out] at hb1
  have HB1 := Lib.hid (HB.out.trans (hb1.mono HB.out.size))
  go_wp2_with fail
  go_ret
  exact ⟨rfl, HB1.out⟩
def flatG (a b : Int) (k : Nat) : List Value := (List.replicate k [Value.int .i64 2, .int .i64 a, .int .i64 b, .slice none 0 0]).flatten
theorem flatG_len (a b : Int) : ∀ k, (flatG a b k).length = k * 4
  | 0 => rfl
  | k + 1 => by
    have := flatG_len a b k
    simp only [flatG, List.replicate_succ, List.flatten_cons, List.length_append, List.length_cons, List.length_nil] at this ⊢
    omega
theorem flatG_snoc (a b : Int) (k : Nat) : flatG a b (k + 1) = flatG a b k ++ [.int .i64 2, .int .i64 a, .int .i64 b, .slice none 0 0] := by
  simp [flatG, List.replicate_succ']
theorem flatG_get (a b : Int) : ∀ (n k : Nat), k < n → (flatG a b n)[k * 4]? = some (.int .i64 2) ∧ (flatG a b n)[k * 4 + 1]? = some (.int .i64 a) ∧ (flatG a b n)[k * 4 + 2]? = some (.int .i64 b) ∧ (flatG a b n)[k * 4 + 3]? = some (.slice none 0 0)
  | 0, k, h => by omega
  | n + 1, 0, _ => ⟨rfl, rfl, rfl, rfl⟩
  | n + 1, k + 1, h => by
    have ih := flatG_get a b n k (by omega)
    have e : flatG a b (n + 1) = [.int .i64 2, .int .i64 a, .int .i64 b, .slice none 0 0] ++ flatG a b n := rfl
    rw [e, Nat.succ_mul]
    refine ⟨?_, ?_, ?_, ?_⟩
    · rw [List.getElem?_append_right (by simp)]; simpa using ih.1
    · rw [List.getElem?_append_right (by simp)]; simpa [show k * 4 + 4 + 1 - 4 = k * 4 + 1 by omega] using ih.2.1
    · rw [List.getElem?_append_right (by simp)]; simpa [show k * 4 + 4 + 2 - 4 = k * 4 + 2 by omega] using ih.2.2.1
    · rw [List.getElem?_append_right (by simp)]; simpa [show k * 4 + 4 + 3 - 4 = k * 4 + 3 by omega] using ih.2.2.2
def RunAt (w : World) (ao : Option Addr) (a b : Int) (n : Nat) : Prop := ∀ k, k < n → ∃ g o, ao = some ⟨g, o, none⟩ ∧ w.cell? ⟨g, o + k * 4, none⟩ = some (.int .i64 2) ∧ w.cell? ⟨g, o + k * 4 + 1, none⟩ = some (.int .i64 a) ∧ w.cell? ⟨g, o + k * 4 + 2, none⟩ = some (.int .i64 b) ∧ w.cell? ⟨g, o + k * 4 + 3, none⟩ = some (.slice none 0 0)
theorem RunAt.on {w w' : World} {ao : Option Addr} {a b : Int} {n : Nat} (h : RunAt w ao a b n) {B : Nat} (hB : w.heap.size ≤ B) (hb : Below B w w') : RunAt w' ao a b n := fun k hk => by
  obtain ⟨g, o, h0, h1, h2, h3, h4⟩ := h k hk
  have hl := World.block_lt_of_cell? w _ h1
  exact ⟨g, o, h0, (hb.cell (by exact Nat.lt_of_lt_of_le hl hB)).trans h1, (hb.cell (by exact Nat.lt_of_lt_of_le hl hB)).trans h2, (hb.cell (by exact Nat.lt_of_lt_of_le hl hB)).trans h3, (hb.cell (by exact Nat.lt_of_lt_of_le hl hB)).trans h4⟩
theorem RunAt.of_owns {w : World} {base n cap : Nat} {ao : Option Addr} {a b : Int} (h : w.ownsRow base 28 4 (.slice ao n cap) n (flatG a b n)) : RunAt w ao a b n := fun k hk => by
  rcases h.2 with ⟨_, h0⟩ | ⟨g, cap', cur, h1, _⟩
  · omega
  · simp only [Value.slice.injEq] at h1
    obtain ⟨rfl, _, rfl⟩ := h1
    obtain ⟨q0, q1, q2, q3⟩ := flatG_get a b n k hk
    refine ⟨g, 0, rfl, ?_, ?_, ?_, ?_⟩
    · rw [Nat.zero_add, h.cellAt _ (by omega), q0]
    · rw [Nat.zero_add, h.cellAt _ (by omega), q1]
    · rw [Nat.zero_add, h.cellAt _ (by omega), q2]
    · rw [Nat.zero_add, h.cellAt _ (by omega), q3]
theorem infoGen : (Tryz.prog.info? 28).map (fun i => (i.zero, i.size, i.bytes)) = some (some (.agg #[.int .i64 0, .int .i64 0, .int .i64 0, .slice none 0 0]), 4, 48) := by kernel_rfl
theorem one4 (a b : Int) : ∀ u ∈ ([.int .i64 2, .int .i64 a, .int .i64 b, .slice none 0 0] : List Value), u.oneCell' = true := by simp [Value.oneCell']
set_option maxRecDepth 100000 in
set_option maxHeartbeats 1000000 in
theorem times_any (a b : Int) (n : Nat) (hn : n ≤ 5) (w : World) : Calls Tryz.prog 113 #[intG a b, .int .i64 (n : Int)] w fun e w' => (∃ u, e = .returned u ∧ w'.ownsRow w.heap.size 28 4 u n (flatG a b n)) ∧ Below w.heap.size w w' := by
  obtain ⟨i0, hi0, hz0, hz1, hz2⟩ := info_parts infoGen
  obtain ⟨w0, hw0⟩ : ∃ w0, w0 = w.alloc (.cells #[.int .i64 2, .int .i64 a, .int .i64 b, .slice none 0 0] 28) := ⟨_, rfl⟩
  have hb0 : Below w.heap.size w w0 := by rw [hw0]; exact (Below.refl _ _).alloc (Nat.le_refl _) _
  have k0 : Blk w0 w.heap.size 28 #[.int .i64 2, .int .i64 a, .int .i64 b, .slice none 0 0] := by rw [hw0]; exact Blk.new _ _ _
  have HB0 := Lib.hid (And.intro hb0 k0)
  have HW := Lib.hid hw0
  obtain ⟨B, hB⟩ : ∃ B, w.heap.size = B := ⟨_, rfl⟩
  clear hw0 hb0 k0
  go_enter Tryz.func113, Tryz.ntmps113
  go_wp2_with fail
  rw [← HW.out]
  go_loopw [5, 7] (fun tv kv wr => ∃ k : Nat, kv = .int .i64 (k : Int) ∧ k ≤ n ∧ RowKit.Hid (Below w.heap.size w wr ∧ Blk wr w.heap.size 28 #[.int .i64 2, .int .i64 a, .int .i64 b, .slice none 0 0] ∧ wr.ownsRow (w.heap.size + 1) 28 4 tv k (flatG a b k))) (fun _ kv _ => n - (intOf kv).toNat)
  case atStart => exact ⟨0, rfl, by omega, Lib.hid ⟨HB0.out.1, HB0.out.2, World.ownsRow_nil _ _ _ _⟩⟩
  case round =>
    obtain ⟨k, rfl, hk, HK⟩ := hrel
    rcases Nat.lt_or_ge k n with hkn | hkn
    · have c0 : wr.cell? ⟨B, 0, none⟩ = some (.int .i64 2) := by rw [← hB]; exact HK.out.2.1.cell 0
      have c1 : wr.cell? ⟨B, 1, none⟩ = some (.int .i64 a) := by rw [← hB]; exact HK.out.2.1.cell 1
      have c2 : wr.cell? ⟨B, 2, none⟩ = some (.int .i64 b) := by rw [← hB]; exact HK.out.2.1.cell 2
      have c3 : wr.cell? ⟨B, 3, none⟩ = some (.slice none 0 0) := by rw [← hB]; exact HK.out.2.1.cell 3
      have hi1 : (k : Int) < (n : Int) := by omega
      have hsz := HK.out.2.1.lt
      rw [hB] at hsz
      have HO := Lib.hid HK.out.2.2
      rw [hB] at HO
      go_wp2_with (at_builtin; refine wpList_push2 _ rfl _ _ 26 rfl (B + 1) 28 i0 _ 4 48 Tryz.underlying26 hi0 hz0 hz1 hz2 rfl (by decide) _ _ _ rfl (HO.out.alloc _) ⟨wr.heap.size, 0, none⟩ 1 [.int .i64 2, .int .i64 a, .int .i64 b, .slice none 0 0] rfl rfl (World.news_of_block (cs := #[.int .i64 2, .int .i64 a, .int .i64 b, .slice none 0 0]) (t := 28) (fr := (0, 0)) (heap_alloc_at _ _ rfl)) (one4 _ _) (by unfold maxLen; omega) (by omega) (by simp; omega) ?_)
      intro g cap w7 hown hgr hat7
      have hbw := HK.out.1
      have hbk := HK.out.2.1
      rw [hB] at hbw hbk
      have HB7 := Lib.hid ((hbw.alloc (by omega) (.cells #[.int .i64 2, .int .i64 a, .int .i64 b, .slice none 0 0] 28)).grown hgr (by simp; omega) (fun q hq => by have := (HO.out.lt q hq).1; omega))
      have HK7 := Lib.hid (show Blk w7 B 28 #[.int .i64 2, .int .i64 a, .int .i64 b, .slice none 0 0] from (hbk.alloc _).same (hgr.block B (by simp; omega) (fun e => by have := (HO.out.lt B e.symm).1; omega)))
      have HO7 := Lib.hid (show w7.ownsRow (B + 1) 28 4 (.slice (some ⟨g, 0, none⟩) (k + 1) cap) (k + 1) (flatG a b (k + 1)) by rw [flatG_snoc]; exact hown)
      have hw1 : IntKind.i64.wrap ((k : Int) + 1) = ((k + 1 : Nat) : Int) := by rw [IntWalk.i64_in _ (by omega)]; omega
      clear hown hgr hat7 hbw hbk
      go_wp2_with fail
      go_roundw
      case rel => exact ⟨k + 1, by go_num, by omega, Lib.hid ⟨by rw [hB]; exact HB7.out, by rw [hB]; exact HK7.out, by rw [hB]; exact HO7.out⟩⟩
      case measure => simp [intOf]; omega
    · obtain rfl : k = n := by omega
      go_wp2_with fail
      go_ret
      exact ⟨⟨_, rfl, HK.out.2.2.mono (by omega)⟩, HK.out.1⟩
theorem pow_b {c : Int} (h0 : 0 ≤ c) (h1 : c ≤ 1001) : ∀ k : Nat, 0 ≤ c ^ k ∧ c ^ k ≤ 1001 ^ k
  | 0 => by simp
  | k + 1 => by
    obtain ⟨q0, q1⟩ := pow_b h0 h1 k
    rw [Int.pow_succ, Int.pow_succ]
    exact ⟨Int.mul_nonneg q0 h0, Int.mul_le_mul q1 h1 h0 (by have : (0 : Int) ≤ 1001 ^ k := Int.pow_nonneg (by decide); exact this)⟩
theorem pow_le {c : Int} (h0 : 0 ≤ c) (h1 : c ≤ 1001) {k : Nat} (hk : k ≤ 5) : 0 ≤ c ^ k ∧ c ^ k ≤ 1005010010005001 := by
  obtain ⟨q0, q1⟩ := pow_b h0 h1 k
  refine ⟨q0, Int.le_trans q1 ?_⟩
  have : k = 0 ∨ k = 1 ∨ k = 2 ∨ k = 3 ∨ k = 4 ∨ k = 5 := by omega
  rcases this with rfl | rfl | rfl | rfl | rfl | rfl <;> decide
set_option maxRecDepth 100000 in
set_option maxHeartbeats 1000000 in
theorem product_any (a b : Int) (n : Nat) (hn : n ≤ 5) (hr : (G.int a b).right) (ao : Option Addr) (cp : Nat) (w : World) (hrun : RunAt w ao a b n) : Calls Tryz.prog 82 #[.slice ao n cp] w fun e w' => e = .returned (.int .i64 ((b - a + 1) ^ n)) ∧ Below w.heap.size w w' := by
  obtain ⟨ha, hb, hab, hba⟩ := id hr
  obtain ⟨c, hc⟩ : ∃ c, c = b - a + 1 := ⟨_, rfl⟩
  have hc0 : 0 ≤ c := by omega
  have hc1 : c ≤ 1001 := by omega
  have HR := Lib.hid hr
  rw [← hc]
  clear hr ha hb
  go_enter Tryz.func82, Tryz.ntmps82
  go_wp2_with fail
  go_loopw [3, 5, 8] (fun pv _ kv wr => ∃ k : Nat, kv = .int .i64 (k : Int) ∧ k ≤ n ∧ pv = .int .i64 (c ^ k) ∧ RowKit.Hid (Below w.heap.size w wr ∧ RunAt wr ao a b n)) (fun _ _ kv _ => n - (intOf kv).toNat)
  case atStart => exact ⟨0, rfl, by omega, by simp, Lib.hid ⟨Below.refl _ _, hrun⟩⟩
  case round =>
    obtain ⟨k, rfl, hk, rfl, HK⟩ := hrel
    rcases Nat.lt_or_ge k n with hkn | hkn
    · obtain ⟨g, o, rfl, h0, h1, h2, h3⟩ := HK.out.2 k hkn
      have hi0' : (0 : Int) ≤ (k : Int) := by omega
      have hi1 : (k : Int) < (n : Int) := by omega
      have hw1 : IntKind.i64.wrap ((k : Int) + 1) = ((k + 1 : Nat) : Int) := by rw [IntWalk.i64_in _ (by omega)]; omega
      have hpp := pow_le hc0 hc1 (show k + 1 ≤ 5 by omega)
      obtain ⟨p, hp⟩ : ∃ p, p = c ^ k := ⟨_, rfl⟩
      rw [Int.pow_succ, ← hp] at hpp
      have hw2 : IntKind.i64.wrap (p * c) = p * c := IntWalk.i64_in _ (by omega)
      have hw3 : wrap64 (p * c) = p * c := by unfold wrap64; omega
      have HP := Lib.hid (show p * c = c ^ (k + 1) by rw [Int.pow_succ, hp])
      rw [← hp]
      obtain ⟨w1, hw1e⟩ : ∃ w1, w1 = wr.alloc (.cells #[.int .i64 2, .int .i64 a, .int .i64 b, .slice none 0 0] 28) := ⟨_, rfl⟩
      have hbw : Below w.heap.size w w1 := by rw [hw1e]; exact HK.out.1.alloc HK.out.1.size _
      have hiw : RunAt w1 (some ⟨g, o, none⟩) a b n := by rw [hw1e]; exact HK.out.2.on (Nat.le_refl _) ((Below.refl _ _).alloc (Nat.le_refl _) _)
      have HC := Lib.hid (rank_count a b HR.out w1)
      have HW1 := Lib.hid hw1e
      have HBI := Lib.hid (And.intro hbw hiw)
      rw [hw1e, ← hc] at HC
      clear hw1e hbw hiw hp hpp hrun
      go_wp2_with fail
      refine HC.out.mono ?_
      clear HC
      rintro e w3 ⟨rfl, hb3⟩
      rw [← HW1.out] at hb3
      have HB3 := Lib.hid (HBI.out.1.trans (hb3.mono HBI.out.1.size))
      have HI3 := Lib.hid (HBI.out.2.on (Nat.le_refl _) hb3)
      clear hb3
      go_wp2_with fail
      go_roundw
      case rel => exact ⟨k + 1, by go_num, by omega, by rw [← HP.out, ← hc]; exact congrArg (Value.int .i64) hw3, Lib.hid ⟨HB3.out, HI3.out⟩⟩
      case measure => simp [intOf]; omega
    · obtain rfl : k = n := by omega
      obtain ⟨p, hp⟩ : ∃ p, p = c ^ k := ⟨_, rfl⟩
      rw [← hp]
      have HPP := Lib.hid hp
      clear hp hrun
      go_wp2_with fail
      go_ret
      exact ⟨by rw [← HPP.out]; rfl, HK.out.1⟩
end Go.Proofs.YtalbllijahiiiaaGreatDoor
end
