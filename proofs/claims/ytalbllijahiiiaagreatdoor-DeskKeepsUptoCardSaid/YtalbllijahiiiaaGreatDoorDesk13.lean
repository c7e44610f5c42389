/- val.Text at a desk's values. -/
import Derived.Test.YtalbllijahiiiaaGreatDoorDesk12
namespace Go.Proofs.YtalbllijahiiiaaGreatDoor
open Go.RowKit Go.Mine Go.Mine.Desk

theorem vtext_num (z : Int) (hz : i64ok z) (w : World) (hg : Gl w) : Calls Tryz.prog 56 #[numV' z] w fun e w' => e = .returned (str (Go.Lib.itoa z)) ∧ Below w.heap.size w w' := by
  obtain ⟨w0, hw0⟩ : ∃ w0, w0 = w.alloc (.cells #[.bool false, .int .i64 z, .slice none 0 0] 53) := ⟨_, rfl⟩
  have hb0 : Below w.heap.size w w0 := by rw [hw0]; exact (Below.refl _ _).alloc (Nat.le_refl _) _
  have HC := Lib.hid (itoa_any z hz w0 (hg.on hb0))
  have HB := Lib.hid hb0
  have HW := Lib.hid hw0
  rw [hw0] at HC
  clear hw0 hb0
  go_enter Tryz.func56, Tryz.ntmps56
  go_wp2_with fail
  refine HC.out.mono ?_
  rintro e w1 ⟨rfl, hb1⟩
  rw [← HW.out] at hb1
  have HB1 := Lib.hid (HB.out.trans (hb1.mono HB.out.size))
  go_wp2_with fail
  go_ret
  exact ⟨rfl, HB1.out⟩
set_option maxRecDepth 100000 in
set_option maxHeartbeats 1000000 in
theorem vtext_list (zs : List Int) (ao : Option Addr) (c : Nat) (hl : zs.length ≤ 2000000) (hz : ∀ z ∈ zs, i64ok z) (w : World) (hg : Gl w) (hi : ItemsAt w ao zs) : Calls Tryz.prog 56 #[.agg #[.bool true, .int .i64 0, .slice ao zs.length c]] w fun e w' => e = .returned (str (vtext (.list zs))) ∧ Below w.heap.size w w' := by
  obtain ⟨i0, hi0, hz0, hz1, hz2⟩ := info_parts infoStr
  obtain ⟨w0, hw0⟩ : ∃ w0, w0 = w.alloc (.cells #[.bool true, .int .i64 0, .slice ao zs.length c] 53) := ⟨_, rfl⟩
  have hb0 : Below w.heap.size w w0 := by rw [hw0]; exact (Below.refl _ _).alloc (Nat.le_refl _) _
  have hi0w := hi.on (Nat.le_refl _) hb0
  obtain ⟨n, hn⟩ : ∃ n, zs.length = n := ⟨_, rfl⟩
  rw [hn] at hw0 hl ⊢
  have HB0 := Lib.hid hb0
  have HI0 := Lib.hid hi0w
  have HW0 := Lib.hid hw0
  have HG := Lib.hid hg
  clear hi0w hb0 hw0 hg
  go_enter Tryz.func56, Tryz.ntmps56
  go_wp2_with fail
  rw [← HW0.out]
  go_loopw [3, 5, 15] (fun tv _ kv wr => ∃ k : Nat, kv = .int .i64 (k : Int) ∧ k ≤ n ∧ RowKit.Hid (Below w.heap.size w wr ∧ ItemsAt wr ao zs ∧ wr.ownsRow w.heap.size 9 1 tv k (((zs.take k).map Go.Lib.itoa).map str))) (fun _ _ kv _ => n - (intOf kv).toNat)
  case atStart => exact ⟨0, rfl, by omega, Lib.hid ⟨HB0.out, HI0.out, World.ownsRow_nil _ _ _ _⟩⟩
  case round =>
    obtain ⟨k, rfl, hk, HK⟩ := hrel
    rcases Nat.lt_or_ge k n with hkn | hkn
    · obtain ⟨b, rfl, h0, h1, h2⟩ := HK.out.2.1 k (by omega)
      have hmem : zs[k]? = some (zs.getD k 0) := by simp [show k < zs.length by omega]
      obtain ⟨x, hxe⟩ : ∃ x, zs.getD k 0 = x := ⟨_, rfl⟩
      rw [hxe] at h1 hmem
      have hi0' : (0 : Int) ≤ (k : Int) := by omega
      have hi1 : (k : Int) < (n : Int) := by omega
      have hw1 : IntKind.i64.wrap ((k : Int) + 1) = ((k + 1 : Nat) : Int) := by rw [IntWalk.i64_in _ (by omega)]; omega
      obtain ⟨w1, hw1e⟩ : ∃ w1, w1 = wr.alloc (.cells #[.bool false, .int .i64 x, .slice none 0 0] 53) := ⟨_, rfl⟩
      have hbw : Below w.heap.size w w1 := by rw [hw1e]; exact HK.out.1.alloc HK.out.1.size _
      have hiw : ItemsAt w1 (some ⟨b, 0, none⟩) zs := by rw [hw1e]; exact HK.out.2.1.on (Nat.le_refl _) ((Below.refl _ _).alloc (Nat.le_refl _) _)
      have hrw := HK.out.2.2.alloc (.cells #[.bool false, .int .i64 x, .slice none 0 0] 53)
      rw [← hw1e] at hrw
      have HC := Lib.hid (vtext_num x (hz x (List.mem_of_getElem? hmem)) w1 (HG.out.on hbw))
      have HW1 := Lib.hid hw1e
      have HBI := Lib.hid (And.intro hbw (And.intro hiw hrw))
      have HM := Lib.hid hmem
      rw [hw1e] at HC
      clear hw1e hbw hiw hrw hxe hmem
      go_wp2_with fail
      refine HC.out.mono ?_
      clear HC
      rintro e w3 ⟨rfl, hb3⟩
      rw [← HW1.out] at hb3
      have HB3 := Lib.hid (HBI.out.1.trans (hb3.mono HBI.out.1.size))
      have HI3 := Lib.hid (HBI.out.2.1.on (Nat.le_refl _) hb3)
      have HO := Lib.hid (owns_below HBI.out.2.2 hb3)
      have hsz := HB3.out.size
      clear hb3
      go_wp2_with (at_builtin; refine wpList_push2 _ rfl _ _ 23 rfl w.heap.size 9 i0 (.string ⟨#[]⟩) 1 16 Tryz.underlying23 hi0 hz0 hz1 hz2 rfl (by decide) _ _ _ rfl (HO.out.alloc _) ⟨w3.heap.size, 0, none⟩ 1 [str (Go.Lib.itoa x)] rfl rfl (World.news_of_block (cs := #[str (Go.Lib.itoa x)]) (t := 9) (fr := (0, 0)) (heap_alloc_at _ _ rfl)) (str1 _) (by unfold maxLen; omega) (by omega) (by simp; omega) ?_)
      intro g cap w7 hown hgr hat7
      have hb7 := (HB3.out.alloc hsz (.cells #[str (Go.Lib.itoa x)] 9)).grown hgr (by simp; omega) (fun q hq => (HO.out.lt q hq).1)
      have HB7 := Lib.hid hb7
      have HI7 := Lib.hid (show ItemsAt w7 (some ⟨b, 0, none⟩) zs from fun q hq => by
        obtain ⟨b', e0, q1, q2, q3⟩ := HI3.out q hq
        have hbl : b' < w3.heap.size := World.block_lt_of_cell? w3 _ q1
        have hbw : ∀ o, w7.cell? ⟨b', o, none⟩ = w3.cell? ⟨b', o, none⟩ := fun o => World.cell?_of_block (by
          show w7.heap[b']? = w3.heap[b']?
          rw [hgr.block b' (by simp; omega) (fun e => by
            have h5 := (HO.out.lt b' e.symm).1
            obtain ⟨b0, e1, q4, _⟩ := hi q hq
            cases e0; cases e1
            have := World.block_lt_of_cell? w _ q4
            simp at this; omega), Below.heap_alloc w3 _ b' hbl])
        exact ⟨b', e0, (hbw _).trans q1, (hbw _).trans q2, (hbw _).trans q3⟩)
      have HO7 := Lib.hid (show w7.ownsRow w.heap.size 9 1 (.slice (some ⟨g, 0, none⟩) (k + 1) cap) (k + 1) (((zs.take (k + 1)).map Go.Lib.itoa).map str) by
        rw [List.take_add_one, HM.out]
        simpa using hown)
      clear hown hgr hat7 hb7
      go_wp2_with fail
      go_roundw
      case rel => exact ⟨k + 1, by go_num, by omega, Lib.hid ⟨HB7.out, HI7.out, HO7.out⟩⟩
      case measure => simp [intOf]; omega
    · obtain rfl : k = n := by omega
      have hO := HK.out.2.2
      rw [List.take_of_length_le (by omega)] at hO
      have HC := Lib.hid (join_any (zs.map Go.Lib.itoa) 32 _ _ 21 (by omega) (by simp; omega) (text_len hz) wr (by rw [List.length_map, hn]; exact hO))
      go_wp2_with fail
      refine HC.out.mono ?_
      rintro e w3 ⟨rfl, hb3⟩
      have HB := Lib.hid (HK.out.1.trans (hb3.mono HK.out.1.size))
      have hjl := join_len (c := 32) (zs.map Go.Lib.itoa) (text_len hz)
      rw [List.length_map] at hjl
      have hj1 : ¬ 9223372036854775807 < 1 + (Go.Lib.join (zs.map Go.Lib.itoa) [32]).length := by omega
      have hj2 : ¬ 9223372036854775807 < 1 + (Go.Lib.join (zs.map Go.Lib.itoa) [32]).length + 1 := by omega
      clear hjl
      go_wp2_with fail
      go_ret
      exact ⟨by simp [vtext, ByteArray.mk_append_mk], HB.out⟩
theorem vtext_any (x : V) (v : Value) (B : Nat) (w : World) (hg : Gl w) (hv : ValAt w B v x) (hx : match x with | .num z => i64ok z | .list zs => zs.length ≤ 2000000 ∧ ∀ z ∈ zs, i64ok z) : Calls Tryz.prog 56 #[v] w fun e w' => e = .returned (str (vtext x)) ∧ Below w.heap.size w w' := by
  cases x with
  | num z => rw [show v = numV' z from hv]; exact vtext_num z hx w hg
  | list zs =>
    obtain ⟨ao, c, h1, h2⟩ := hv.open
    rw [h1]
    exact vtext_list zs ao c hx.1 hx.2 w hg h2
end Go.Proofs.YtalbllijahiiiaaGreatDoor
