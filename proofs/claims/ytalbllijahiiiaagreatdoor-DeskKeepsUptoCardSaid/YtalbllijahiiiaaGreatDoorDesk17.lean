/- expr.told, Eval, Fails at a desk's expression. -/
import Derived.Test.YtalbllijahiiiaaGreatDoorDesk16
namespace Go.Proofs.YtalbllijahiiiaaGreatDoor
open Go.RowKit Go.Mine Go.Mine.Desk

def small (z : Int) : Prop := -2147483648 ≤ z ∧ z ≤ 2147483648
def VOk : V → Prop
  | .num z => small z
  | .list zs => zs.length ≤ 5 ∧ ∀ z ∈ zs, small z
theorem truth_any (t : Bool) (w : World) : Calls Tryz.prog 177 #[.bool t] w fun e w' => e = .returned (.int .i64 (if t then 1 else 0)) ∧ w' = w := by
  cases t with
  | false =>
    go_enter Tryz.func177, Tryz.ntmps177
    go_wp2_with fail
    go_ret
    exact ⟨rfl, rfl⟩
  | true =>
    go_enter Tryz.func177, Tryz.ntmps177
    go_wp2_with fail
    go_ret
    exact ⟨rfl, rfl⟩
theorem told2_enters (args : Array Value) (w : World) : Sem.run Tryz.prog (callFunc 175 args) w = .ok (.enter 175 args) w := by kernel_rfl
theorem told1_enters (args : Array Value) (w : World) : Sem.run Tryz.prog (callFunc 173 args) w = .ok (.enter 173 args) w := by kernel_rfl
def big (s : Int) : Prop := -1099511627776 ≤ s ∧ s ≤ 1099511627776
theorem told2_any (x s : Int) (hx : small x) (hs : big s) (sb : Nat) (w : World) (hk : Blk w sb 3 #[.int .i64 s]) : Calls Tryz.prog 175 #[.int .i64 x, .pointer (some ⟨sb, 0, none⟩)] w fun e w' => e = .returned (.tuple #[]) ∧ w' = w.setCell ⟨sb, 0, none⟩ (.int .i64 (s + x)) := by
  have c0 : w.cell? ⟨sb, 0, none⟩ = some (.int .i64 s) := hk.cell 0
  have f0 := hk.froz 0
  have hw : IntKind.i64.wrap (s + x) = s + x := IntWalk.i64_in _ (by unfold small at hx; unfold big at hs; omega)
  have hw2 : wrap64 (s + x) = s + x := by unfold small at hx; unfold big at hs; unfold wrap64; omega
  go_enter Tryz.func175, Tryz.ntmps175
  go_wp2_with fail
  simp [bodyPost, results, Tryz.results175]
theorem body_none {P : Program} {fn : Func} {R : Ending → World → Prop} {ts : Array Value} {w : World} (hr : (results fn ts).run P w = .ok (.tuple #[]) w) (h : R (.returned (.tuple #[])) w) : bodyPost P fn R .normal { tmps := ts, defers := [] } w := by
  simp only [bodyPost]
  exact ⟨trivial, _, hr, h⟩
/-- How the numbers are asked. -/
def Summed (sb : Nat) (w : World) (s : Int) (e : Ending) (w' : World) : Prop := e = .returned (.tuple #[]) ∧ Tch (fun k => k = sb) w w' ∧ Blk w' sb 3 #[.int .i64 s]
theorem numbers_num (z s : Int) (hz : small z) (hs : big s) (sb : Nat) (w : World) (hk : Blk w sb 3 #[.int .i64 s]) : Calls Tryz.prog 174 #[numV' z, .func (.func 175) #[] #[.pointer (some ⟨sb, 0, none⟩)]] w (Summed sb w (s + z)) := by
  obtain ⟨w0, hw0⟩ : ∃ w0, w0 = w.alloc (.cells #[.bool false, .int .i64 z, .slice none 0 0] 53) := ⟨_, rfl⟩
  have hb0 : Below w.heap.size w w0 := by rw [hw0]; exact (Below.refl _ _).alloc (Nat.le_refl _) _
  have k0 := hk.below hb0
  have HC := Lib.hid (told2_any z s hz hs sb w0 k0)
  have HK := Lib.hid (And.intro hb0 k0)
  have HW := Lib.hid hw0
  rw [hw0] at HC
  have hent := told2_enters
  have hsl := hk.lt
  clear hw0 hb0 k0 hk
  go_enter Tryz.func174, Tryz.ntmps174
  go_wp2_with fail
  refine HC.out.mono ?_
  clear HC
  rintro e w1 ⟨rfl, hw1⟩
  rw [← HW.out] at hw1
  have HS := Lib.hid (show Summed sb w (s + z) (.returned (.tuple #[])) w1 by rw [hw1]; exact ⟨rfl, (Tch.of_below (S := fun k => k = sb) HK.out.1).set (p := ⟨sb, 0, none⟩) (.inl rfl) _, HK.out.2.set 0 _⟩)
  have kb : Blk w1 w.heap.size 53 #[.bool false, .int .i64 z, .slice none 0 0] := by
    rw [hw1, HW.out]
    exact (Blk.new _ _ _).other _ _ (by omega) _
  have d2 : w1.cell? ⟨w.heap.size, 2, none⟩ = some (.slice none 0 0) := kb.cell 2
  clear hw1 kb
  go_wp2_with fail
  refine wp_loop_rounds 1 ?_
  rw [rounds_succ]
  go_wp2_with fail
  refine body_none ?_ HS.out
  simp [results, Tryz.results174]
set_option maxRecDepth 100000 in
set_option maxHeartbeats 1000000 in
theorem numbers_list (zs : List Int) (ao : Option Addr) (c : Nat) (hl : zs.length ≤ 5) (hz : ∀ z ∈ zs, small z) (sb : Nat) (w : World) (hi : ItemsAt w ao zs) (hne : ∀ b, ao = some ⟨b, 0, none⟩ → b ≠ sb) (hk : Blk w sb 3 #[.int .i64 0]) : Calls Tryz.prog 174 #[.agg #[.bool true, .int .i64 0, .slice ao zs.length c], .func (.func 175) #[] #[.pointer (some ⟨sb, 0, none⟩)]] w (Summed sb w zs.sum) := by
  obtain ⟨w0, hw0⟩ : ∃ w0, w0 = w.alloc (.cells #[.bool true, .int .i64 0, .slice ao zs.length c] 53) := ⟨_, rfl⟩
  have hb0 : Below w.heap.size w w0 := by rw [hw0]; exact (Below.refl _ _).alloc (Nat.le_refl _) _
  obtain ⟨n, hn⟩ : ∃ n, zs.length = n := ⟨_, rfl⟩
  have hi0 := hi.on (Nat.le_refl _) hb0
  have k0 := hk.below hb0
  rw [hn] at hw0 hl ⊢
  have HB0 := Lib.hid (And.intro (Tch.of_below (S := fun k => k = sb) hb0) (And.intro hi0 k0))
  have HW0 := Lib.hid hw0
  have hent := told2_enters
  clear hi hi0 hb0 hw0 hk k0
  go_enter Tryz.func174, Tryz.ntmps174
  go_wp2_with fail
  rw [← HW0.out]
  go_loopw [5, 16] (fun _ kv wr => ∃ k : Nat, kv = .int .i64 (k : Int) ∧ k ≤ n ∧ RowKit.Hid (Tch (fun k => k = sb) w wr ∧ ItemsAt wr ao zs ∧ Blk wr sb 3 #[.int .i64 (zs.take k).sum] ∧ big (zs.take k).sum)) (fun _ kv _ => n - (intOf kv).toNat)
  case atStart => exact ⟨0, rfl, by omega, Lib.hid ⟨HB0.out.1, HB0.out.2.1, HB0.out.2.2, by simp [big]⟩⟩
  case round =>
    obtain ⟨k, rfl, hk, HK⟩ := hrel
    rcases Nat.lt_or_ge k n with hkn | hkn
    · obtain ⟨b, rfl, h0, h1, h2⟩ := HK.out.2.1 k (by omega)
      have hmem : zs[k]? = some (zs.getD k 0) := by simp [show k < zs.length by omega]
      obtain ⟨x, hxe⟩ : ∃ x, zs.getD k 0 = x := ⟨_, rfl⟩
      rw [hxe] at h1 hmem
      have hi0' : (0 : Int) ≤ (k : Int) := by omega
      have hi1 : (k : Int) < (n : Int) := by omega
      have hw1 : IntKind.i64.wrap ((k : Int) + 1) = ((k + 1 : Nat) : Int) := by rw [IntWalk.i64_in _ (by omega)]; omega
      obtain ⟨w1, hw1e⟩ : ∃ w1, w1 = wr.alloc (.cells #[.bool false, .int .i64 x, .slice none 0 0] 53) := ⟨_, rfl⟩
      have ht1 : Tch (fun k => k = sb) w w1 := by rw [hw1e]; exact HK.out.1.alloc _
      have hiw : ItemsAt w1 (some ⟨b, 0, none⟩) zs := by rw [hw1e]; exact HK.out.2.1.on (Nat.le_refl _) ((Below.refl _ _).alloc (Nat.le_refl _) _)
      have hkw : Blk w1 sb 3 #[.int .i64 (zs.take k).sum] := by rw [hw1e]; exact HK.out.2.2.1.alloc _
      have hsm : small x := hz x (List.mem_of_getElem? hmem)
      have hsum : (zs.take (k + 1)).sum = (zs.take k).sum + x := by rw [List.take_add_one, hmem]; simp [List.sum_append]
      have hbig : ∀ j : Nat, j ≤ 5 → -2147483648 * (j : Int) ≤ (zs.take j).sum ∧ (zs.take j).sum ≤ 2147483648 * (j : Int) := by
        intro j
        induction j with
        | zero => intro _; simp
        | succ j ih =>
          intro hj
          obtain ⟨i1, i2⟩ := ih (by omega)
          rw [List.take_add_one]
          cases hq : zs[j]? with
          | none => simp; omega
          | some y =>
            have := hz y (List.mem_of_getElem? hq)
            unfold small at this
            simp [List.sum_append]
            omega
      have hbig' : big (zs.take (k + 1)).sum := by have := hbig (k + 1) (by omega); unfold big; omega
      have HC := Lib.hid (numbers_num x _ hsm HK.out.2.2.2 sb w1 hkw)
      have HW1 := Lib.hid hw1e
      have HBI := Lib.hid (And.intro ht1 (And.intro hiw (And.intro hsum hbig')))
      rw [hw1e] at HC
      clear hw1e ht1 hiw hkw hxe hmem hsum hbig hbig'
      go_wp2_with fail
      refine HC.out.mono ?_
      clear HC
      rintro e w3 ⟨rfl, ht3, hk3⟩
      rw [← HW1.out] at ht3
      rw [← HBI.out.2.2.1] at hk3
      have HT3 := Lib.hid (show Tch (fun k => k = sb) w w3 from HBI.out.1.trans ht3 fun _ h => .inl h)
      have HI3 := Lib.hid (show ItemsAt w3 (some ⟨b, 0, none⟩) zs from fun q hq => by
        obtain ⟨b', e0, q1, q2, q3⟩ := HBI.out.2.1 q hq
        cases e0
        have hbl := World.block_lt_of_cell? w1 _ q1
        have hbw : ∀ o, w3.cell? ⟨b, o, none⟩ = w1.cell? ⟨b, o, none⟩ := fun o => World.cell?_of_block (ht3.block b hbl (hne b rfl))
        exact ⟨b, rfl, (hbw _).trans q1, (hbw _).trans q2, (hbw _).trans q3⟩)
      have HK3 := Lib.hid hk3
      clear ht3 hk3
      go_wp2_with fail
      go_roundw
      case rel => exact ⟨k + 1, by go_num, by omega, Lib.hid ⟨HT3.out, HI3.out, HK3.out, HBI.out.2.2.2⟩⟩
      case measure => simp [intOf]; omega
    · obtain rfl : k = n := by omega
      have HS := Lib.hid (show Summed sb w zs.sum (.returned (.tuple #[])) wr from ⟨rfl, HK.out.1, by have := HK.out.2.2.1; rwa [List.take_of_length_le (by omega)] at this⟩)
      go_wp2_with fail
      refine body_none ?_ HS.out
      simp [results, Tryz.results174]
end Go.Proofs.YtalbllijahiiiaaGreatDoor
