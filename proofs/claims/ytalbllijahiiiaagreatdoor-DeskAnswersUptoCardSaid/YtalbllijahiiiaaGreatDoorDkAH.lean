/- expr.told, Eval, Fails at a desk's expression. expr.told, Eval, Fails at a desk's expression. expr.told at the whole, Eval, Fails at a desk's expression. -/
import Derived.Test.YtalbllijahiiiaaGreatDoorDkAG
import Derived.Deep.RegionLaw
section
namespace Go.Proofs.YtalbllijahiiiaaGreatDoor
open Go.RowKit Go.Mine Go.Mine.Desk

def small (z : Int) : Prop := -2147483648 ≤ z ∧ z ≤ 2147483648
def VOk : V → Prop
  | .num z => small z
  | .list zs => zs.length ≤ 5 ∧ ∀ z ∈ zs, small z
theorem truth_any (t : Bool) (w : World) : Calls Tryz.prog 177 #[.bool t] w fun e w' => e = .returned (.int .i64 (if t then 1 else 0)) ∧ w' = w := by
  cases t with
  | false =>
    go_enter Tryz.func177, Tryz.ntmps177
    go_wp2_with fail
    go_ret
    exact ⟨rfl, rfl⟩
  | true =>
    go_enter Tryz.func177, Tryz.ntmps177
    go_wp2_with fail
    go_ret
    exact ⟨rfl, rfl⟩
theorem told2_enters (args : Array Value) (w : World) : Sem.run Tryz.prog (callFunc 175 args) w = .ok (.enter 175 args) w := by kernel_rfl
theorem told1_enters (args : Array Value) (w : World) : Sem.run Tryz.prog (callFunc 173 args) w = .ok (.enter 173 args) w := by kernel_rfl
def big (s : Int) : Prop := -1099511627776 ≤ s ∧ s ≤ 1099511627776
theorem told2_any (x s : Int) (hx : small x) (hs : big s) (sb : Nat) (w : World) (hk : Blk w sb 3 #[.int .i64 s]) : Calls Tryz.prog 175 #[.int .i64 x, .pointer (some ⟨sb, 0, none⟩)] w fun e w' => e = .returned (.tuple #[]) ∧ w' = w.setCell ⟨sb, 0, none⟩ (.int .i64 (s + x)) := by
  have c0 : w.cell? ⟨sb, 0, none⟩ = some (.int .i64 s) := hk.cell 0
  have f0 := hk.froz 0
  have hw : IntKind.i64.wrap (s + x) = s + x := IntWalk.i64_in _ (by unfold small at hx; unfold big at hs; omega)
  have hw2 : wrap64 (s + x) = s + x := by unfold small at hx; unfold big at hs; unfold wrap64; omega
  go_enter Tryz.func175, Tryz.ntmps175
  go_wp2_with fail
  simp [bodyPost, results, Tryz.results175]
theorem body_none {P : Program} {fn : Func} {R : Ending → World → Prop} {ts : Array Value} {w : World} (hr : (results fn ts).run P w = .ok (.tuple #[]) w) (h : R (.returned (.tuple #[])) w) : bodyPost P fn R .normal { tmps := ts, defers := [] } w := by
  simp only [bodyPost]
  exact ⟨trivial, _, hr, h⟩
def Summed (sb : Nat) (w : World) (s : Int) (e : Ending) (w' : World) : Prop := e = .returned (.tuple #[]) ∧ Tch (fun k => k = sb) w w' ∧ Blk w' sb 3 #[.int .i64 s]
theorem numbers_num (z s : Int) (hz : small z) (hs : big s) (sb : Nat) (w : World) (hk : Blk w sb 3 #[.int .i64 s]) : Calls Tryz.prog 174 #[numV' z, .func (.func 175) #[] #[.pointer (some ⟨sb, 0, none⟩)]] w (Summed sb w (s + z)) := by
  obtain ⟨w0, hw0⟩ : ∃ w0, w0 = w.alloc (.cells #[.bool false, .int .i64 z, .slice none 0 0] 53) := ⟨_, rfl⟩
  have hb0 : Below w.heap.size w w0 := by rw [hw0]; exact (Below.refl _ _).alloc (Nat.le_refl _) _
  have k0 := hk.below hb0
  have HC := Lib.hid (told2_any z s hz hs sb w0 k0)
  have HK := Lib.hid (And.intro hb0 k0)
  have HW := Lib.hid hw0
  rw [hw0] at HC
  have hent := told2_enters
  have hsl := hk.lt
  clear hw0 hb0 k0 hk
  go_enter Tryz.func174, Tryz.ntmps174
  go_wp2_with fail
  refine HC.out.mono ?_
  clear HC
  rintro e w1 ⟨rfl, hw1⟩
  rw [← HW.out] at hw1
  have HS := Lib.hid (show Summed sb w (s + z) (.returned (.tuple #[])) w1 by rw [hw1]; exact ⟨rfl, (Tch.of_below (S := fun k => k = sb) HK.out.1).set (p := ⟨sb, 0, none⟩) (.inl rfl) _, HK.out.2.set 0 _⟩)
  have kb : Blk w1 w.heap.size 53 #[.bool false, .int .i64 z, .slice none 0 0] := by
    rw [hw1, HW.out]
    exact (Blk.new _ _ _).other _ _ (by omega) _
  have d2 : w1.cell? ⟨w.heap.size, 2, none⟩ = some (.slice none 0 0) := kb.cell 2
  clear hw1 kb
  go_wp2_with fail
  refine wp_loop_rounds 1 ?_
  rw [rounds_succ]
  go_wp2_with fail
  refine body_none ?_ HS.out
  simp [results, Tryz.results174]
set_option maxRecDepth 100000 in
set_option maxHeartbeats 1000000 in
theorem numbers_list (zs : List Int) (ao : Option Addr) (c : Nat) (hl : zs.length ≤ 5) (hz : ∀ z ∈ zs, small z) (sb : Nat) (w : World) (hi : ItemsAt w ao zs) (hne : ∀ b, ao = some ⟨b, 0, none⟩ → b ≠ sb) (hk : Blk w sb 3 #[.int .i64 0]) : Calls Tryz.prog 174 #[.agg #[.bool true, .int .i64 0, .slice ao zs.length c], .func (.func 175) #[] #[.pointer (some ⟨sb, 0, none⟩)]] w (Summed sb w zs.sum) := by
  obtain ⟨w0, hw0⟩ : ∃ w0, w0 = w.alloc (.cells #[.bool true, .int .i64 0, .slice ao zs.length c] 53) := ⟨_, rfl⟩
  have hb0 : Below w.heap.size w w0 := by rw [hw0]; exact (Below.refl _ _).alloc (Nat.le_refl _) _
  obtain ⟨n, hn⟩ : ∃ n, zs.length = n := ⟨_, rfl⟩
  have hi0 := hi.on (Nat.le_refl _) hb0
  have k0 := hk.below hb0
  rw [hn] at hw0 hl ⊢
  have HB0 := Lib.hid (And.intro (Tch.of_below (S := fun k => k = sb) hb0) (And.intro hi0 k0))
  have HW0 := Lib.hid hw0
  have hent := told2_enters
  clear hi hi0 hb0 hw0 hk k0
  go_enter Tryz.func174, Tryz.ntmps174
  go_wp2_with fail
  rw [← HW0.out]
  go_loopw [5, 16] (fun _ kv wr => ∃ k : Nat, kv = .int .i64 (k : Int) ∧ k ≤ n ∧ RowKit.Hid (Tch (fun k => k = sb) w wr ∧ ItemsAt wr ao zs ∧ Blk wr sb 3 #[.int .i64 (zs.take k).sum] ∧ big (zs.take k).sum)) (fun _ kv _ => n - (intOf kv).toNat)
  case atStart => exact ⟨0, rfl, by omega, Lib.hid ⟨HB0.out.1, HB0.out.2.1, HB0.out.2.2, by simp [big]⟩⟩
  case round =>
    obtain ⟨k, rfl, hk, HK⟩ := hrel
    rcases Nat.lt_or_ge k n with hkn | hkn
    · obtain ⟨b, rfl, h0, h1, h2⟩ := HK.out.2.1 k (by omega)
      have hmem : zs[k]? = some (zs.getD k 0) := by simp [show k < zs.length by omega]
      obtain ⟨x, hxe⟩ : ∃ x, zs.getD k 0 = x := ⟨_, rfl⟩
      rw [hxe] at h1 hmem
      have hi0' : (0 : Int) ≤ (k : Int) := by omega
      have hi1 : (k : Int) < (n : Int) := by omega
      have hw1 : IntKind.i64.wrap ((k : Int) + 1) = ((k + 1 : Nat) : Int) := by rw [IntWalk.i64_in _ (by omega)]; omega
      obtain ⟨w1, hw1e⟩ : ∃ w1, w1 = wr.alloc (.cells #[.bool false, .int .i64 x, .slice none 0 0] 53) := ⟨_, rfl⟩
      have ht1 : Tch (fun k => k = sb) w w1 := by rw [hw1e]; exact HK.out.1.alloc _
      have hiw : ItemsAt w1 (some ⟨b, 0, none⟩) zs := by rw [hw1e]; exact HK.out.2.1.on (Nat.le_refl _) ((Below.refl _ _).alloc (Nat.le_refl _) _)
      have hkw : Blk w1 sb 3 #[.int .i64 (zs.take k).sum] := by rw [hw1e]; exact HK.out.2.2.1.alloc _
      have hsm : small x := hz x (List.mem_of_getElem? hmem)
      have hsum : (zs.take (k + 1)).sum = (zs.take k).sum + x := by rw [List.take_add_one, hmem]; simp [List.sum_append]
      have hbig : ∀ j : Nat, j ≤ 5 → -2147483648 * (j : Int) ≤ (zs.take j).sum ∧ (zs.take j).sum ≤ 2147483648 * (j : Int) := by
        intro j
        induction j with
        | zero => intro _; simp
        | succ j ih =>
          intro hj
          obtain ⟨i1, i2⟩ := ih (by omega)
          rw [List.take_add_one]
          cases hq : zs[j]? with
          | none => simp; omega
          | some y =>
            have := hz y (List.mem_of_getElem? hq)
            unfold small at this
            simp [List.sum_append]
            omega
      have hbig' : big (zs.take (k + 1)).sum := by have := hbig (k + 1) (by omega); unfold big; omega
      have HC := Lib.hid (numbers_num x _ hsm HK.out.2.2.2 sb w1 hkw)
      have HW1 := Lib.hid hw1e
      have HBI := Lib.hid (And.intro ht1 (And.intro hiw (And.intro hsum hbig')))
      rw [hw1e] at HC
      clear hw1e ht1 hiw hkw hxe hmem hsum hbig hbig'
      go_wp2_with fail
      refine HC.out.mono ?_
      clear HC
      rintro e w3 ⟨rfl, ht3, hk3⟩
      rw [← HW1.out] at ht3
      rw [← HBI.out.2.2.1] at hk3
      have HT3 := Lib.hid (show Tch (fun k => k = sb) w w3 from HBI.out.1.trans ht3 fun _ h => .inl h)
      have HI3 := Lib.hid (show ItemsAt w3 (some ⟨b, 0, none⟩) zs from fun q hq => by
        obtain ⟨b', e0, q1, q2, q3⟩ := HBI.out.2.1 q hq
        cases e0
        have hbl := World.block_lt_of_cell? w1 _ q1
        have hbw : ∀ o, w3.cell? ⟨b, o, none⟩ = w1.cell? ⟨b, o, none⟩ := fun o => World.cell?_of_block (ht3.block b hbl (hne b rfl))
        exact ⟨b, rfl, (hbw _).trans q1, (hbw _).trans q2, (hbw _).trans q3⟩)
      have HK3 := Lib.hid hk3
      clear ht3 hk3
      go_wp2_with fail
      go_roundw
      case rel => exact ⟨k + 1, by go_num, by omega, Lib.hid ⟨HT3.out, HI3.out, HK3.out, HBI.out.2.2.2⟩⟩
      case measure => simp [intOf]; omega
    · obtain rfl : k = n := by omega
      have HS := Lib.hid (show Summed sb w zs.sum (.returned (.tuple #[])) wr from ⟨rfl, HK.out.1, by have := HK.out.2.2.1; rwa [List.take_of_length_le (by omega)] at this⟩)
      go_wp2_with fail
      refine body_none ?_ HS.out
      simp [results, Tryz.results174]
end Go.Proofs.YtalbllijahiiiaaGreatDoor
end

section
namespace Go.Proofs.YtalbllijahiiiaaGreatDoor
open Go.RowKit Go.Mine Go.Mine.Desk

theorem numbers_any (x : V) (v : Value) (B : Nat) (w : World) (hv : ValAt w B v x) (hx : VOk x) (sb : Nat) (hne : valBlock v ≠ some sb) (hk : Blk w sb 3 #[.int .i64 0]) : Calls Tryz.prog 174 #[v, .func (.func 175) #[] #[.pointer (some ⟨sb, 0, none⟩)]] w (Summed sb w (total x)) := by
  cases x with
  | num z =>
    rw [show v = numV' z from hv]
    have h := numbers_num z 0 hx (by simp [big]) sb w hk
    rw [Int.zero_add] at h
    exact h
  | list zs =>
    obtain ⟨ao, c, h1, h2⟩ := hv.open
    rw [h1] at hne ⊢
    exact numbers_list zs ao c hx.1 hx.2 sb w h2 (fun b hb e => hne (by rw [hb, e]; rfl)) hk
theorem total_big {x : V} (h : VOk x) : big (total x) := by
  cases x with
  | num z => unfold VOk small at h; show -1099511627776 ≤ z ∧ z ≤ 1099511627776; omega
  | list zs =>
    obtain ⟨h1, h2⟩ := h
    have hs : ∀ l : List Int, (∀ z ∈ l, small z) → -2147483648 * (l.length : Int) ≤ l.sum ∧ l.sum ≤ 2147483648 * (l.length : Int) := by
      intro l
      induction l with
      | nil => intro _; simp
      | cons y r ih =>
        intro h
        obtain ⟨i1, i2⟩ := ih (fun z hz => h z (List.mem_cons_of_mem _ hz))
        have := h y List.mem_cons_self
        unfold small at this
        simp only [List.sum_cons, List.length_cons]
        omega
    have := hs zs h2
    show -1099511627776 ≤ zs.sum ∧ zs.sum ≤ 1099511627776
    omega
set_option maxRecDepth 100000 in
set_option maxHeartbeats 1000000 in
theorem told_lit (n : Int) (v : Value) (x : V) (B0 : Nat) (w : World) (hv : ValAt w B0 v x) : Calls Tryz.prog 171 #[leafE 1 n, v] w fun e w' => e = .returned (.int .i64 n) ∧ Below w.heap.size w w' := by
  obtain ⟨vk, vz, vao, vn, vc, rfl⟩ := hv.shape
  have hmf : ∀ (fn : Fn) (first cap : Array Value) (w : World), (Instr.makeFunc fn first cap).run Tryz.prog w = .ok (.func fn first cap) w := fun _ _ _ _ => rfl
  have HB := Lib.hid (show Below w.heap.size w ((w.alloc (.cells #[.int .i64 1, .int .i64 n, .slice none 0 0] 41)).alloc (.cells #[.bool vk, .int .i64 vz, .slice vao vn vc] 53)) from ((Below.refl _ _).alloc (Nat.le_refl _) _).alloc (by simp) _)
  clear hv
  go_enter Tryz.func171, Tryz.ntmps171
  go_wp2_with fail
  go_ret
  exact ⟨rfl, HB.out⟩
set_option maxRecDepth 100000 in
set_option maxHeartbeats 1000000 in
theorem told_sum (v : Value) (x : V) (B0 : Nat) (w : World) (hv : ValAt w B0 v x) (hx : VOk x) : Calls Tryz.prog 171 #[leafE 2 0, v] w fun e w' => e = .returned (.int .i64 (total x)) ∧ Below w.heap.size w w' := by
  obtain ⟨vk, vz, vao, vn, vc, hsh⟩ := hv.shape
  have hmf : ∀ (fn : Fn) (first cap : Array Value) (w : World), (Instr.makeFunc fn first cap).run Tryz.prog w = .ok (.func fn first cap) w := fun _ _ _ _ => rfl
  obtain ⟨w2, hw2⟩ : ∃ w2, w2 = ((w.alloc (.cells #[.int .i64 2, .int .i64 0, .slice none 0 0] 41)).alloc (.cells #[.bool vk, .int .i64 vz, .slice vao vn vc] 53)).alloc (.cells #[.int .i64 0] 3) := ⟨_, rfl⟩
  have hb2 : Below w.heap.size w w2 := by rw [hw2]; exact (((Below.refl w.heap.size w).alloc (Nat.le_refl _) _).alloc (by simp) _).alloc (by simp; omega) _
  have ks : Blk w2 (w.heap.size + 1 + 1) 3 #[.int .i64 0] := by rw [hw2]; have := Blk.new ((w.alloc (.cells #[.int .i64 2, .int .i64 0, .slice none 0 0] 41)).alloc (.cells #[.bool vk, .int .i64 vz, .slice vao vn vc] 53)) 3 #[.int .i64 0]; simpa using this
  have hv2 := hv.below hb2
  have HC := Lib.hid (numbers_any x v B0 w2 hv2 hx (w.heap.size + 1 + 1) (fun e => by have := (hv.lt _ e).2; omega) ks)
  have HW := Lib.hid hw2
  have HB := Lib.hid hb2
  rw [hsh] at HC ⊢
  rw [hw2] at HC
  clear hw2 hb2 ks hv2 hv
  go_enter Tryz.func171, Tryz.ntmps171
  go_wp2_with fail
  refine HC.out.mono ?_
  clear HC
  rintro e w3 ⟨rfl, ht3, hk3⟩
  rw [← HW.out] at ht3
  have c0 : w3.cell? ⟨w.heap.size + 1 + 1, 0, none⟩ = some (.int .i64 (total x)) := hk3.cell 0
  have HB3 := Lib.hid (show Below w.heap.size w w3 from ((Tch.of_below (S := fun k => k = w.heap.size + 1 + 1) HB.out).trans ht3 (fun _ h => .inl h)).below (Nat.le_refl _) (fun k h => by omega))
  clear ht3 hk3
  go_wp2_with fail
  go_ret
  exact ⟨rfl, HB3.out⟩
def partOf (n : Int) (x : V) (i : Nat) : Int := if i = 0 then total x else n
set_option maxRecDepth 100000 in
set_option maxHeartbeats 1000000 in
theorem told1_any (i : Nat) (hi : i < 2) (n : Int) (eb eB vB : Nat) (v : Value) (x : V) (B0 : Nat) (vk : Bool) (vz : Int) (vao : Option Addr) (vn vc : Nat) (hsh : v = .agg #[.bool vk, .int .i64 vz, .slice vao vn vc]) (w : World)
    (ke : Blk w eB 41 #[.int .i64 7, .int .i64 0, .slice (some ⟨eb, 0, none⟩) 2 2]) (he : ExprAt w eb n) (kv : Blk w vB 53 #[.bool vk, .int .i64 vz, .slice vao vn vc]) (hv : ValAt w B0 v x) (hx : VOk x) :
    Calls Tryz.prog 173 #[.int .i64 (i : Int), .pointer (some ⟨eB, 0, none⟩), .pointer (some ⟨vB, 0, none⟩)] w fun e w' => e = .returned (.int .i64 (partOf n x i)) ∧ Below w.heap.size w w' := by
  have c2 : w.cell? ⟨eB, 2, none⟩ = some (.slice (some ⟨eb, 0, none⟩) 2 2) := ke.cell 2
  have q0 : w.cell? ⟨eb, 0, none⟩ = some (.int .i64 2) := Blk.cell he 0
  have q1 : w.cell? ⟨eb, 1, none⟩ = some (.int .i64 0) := Blk.cell he 1
  have q2 : w.cell? ⟨eb, 2, none⟩ = some (.slice none 0 0) := Blk.cell he 2
  have q3 : w.cell? ⟨eb, 3, none⟩ = some (.int .i64 1) := Blk.cell he 3
  have q4 : w.cell? ⟨eb, 4, none⟩ = some (.int .i64 n) := Blk.cell he 4
  have q5 : w.cell? ⟨eb, 5, none⟩ = some (.slice none 0 0) := Blk.cell he 5
  have d0 : w.cell? ⟨vB, 0, none⟩ = some (.bool vk) := kv.cell 0
  have d1 : w.cell? ⟨vB, 1, none⟩ = some (.int .i64 vz) := kv.cell 1
  have d2 : w.cell? ⟨vB, 2, none⟩ = some (.slice vao vn vc) := kv.cell 2
  have HC0 := told_sum v x B0 w.drew hv hx
  have HC1 := told_lit n v x B0 w.drew hv
  rw [hsh] at HC0 HC1
  clear ke he kv hv hsh
  have hi' : i = 0 ∨ i = 1 := by omega
  rcases hi' with rfl | rfl
  · have HC := Lib.hid HC0
    clear HC0 HC1
    go_enter Tryz.func173, Tryz.ntmps173
    go_wp2_with fail
    go_region_law (go_simp; go_at_call 171; refine HC.out.mono ?_; rintro e w9 ⟨rfl, hb9⟩)
    all_goals
      have HB9 := Lib.hid (show Below w.heap.size w w9 from ((Below.refl _ w).drew).trans hb9)
      clear hb9
      go_wp2_with fail
      go_ret
      exact ⟨rfl, HB9.out⟩
  · have HC := Lib.hid HC1
    clear HC0 HC1
    go_enter Tryz.func173, Tryz.ntmps173
    go_wp2_with fail
    go_region_law (go_simp; go_at_call 171; refine HC.out.mono ?_; rintro e w9 ⟨rfl, hb9⟩)
    all_goals
      have HB9 := Lib.hid (show Below w.heap.size w w9 from ((Below.refl _ w).drew).trans hb9)
      clear hb9
      go_wp2_with fail
      go_ret
      exact ⟨rfl, HB9.out⟩
end Go.Proofs.YtalbllijahiiiaaGreatDoor
end

section
namespace Go.Proofs.YtalbllijahiiiaaGreatDoor
open Go.RowKit Go.Mine Go.Mine.Desk

def verdict (n : Int) (x : V) : Int := if total x < n then 1 else 0
theorem truth_on (t : Bool) (w : World) (ht : t = true) : Calls Tryz.prog 177 #[.bool t] w fun e w' => e = .returned (.int .i64 1) ∧ w' = w := by
  subst ht; exact truth_any true w
theorem truth_off (t : Bool) (w : World) (ht : t = false) : Calls Tryz.prog 177 #[.bool t] w fun e w' => e = .returned (.int .i64 0) ∧ w' = w := by
  subst ht; exact truth_any false w
set_option maxRecDepth 100000 in
set_option maxHeartbeats 1000000 in
theorem told_whole (n : Int) (eb : Nat) (v : Value) (x : V) (B0 : Nat) (w : World) (he : ExprAt w eb n) (hv : ValAt w B0 v x) (hx : VOk x) : Calls Tryz.prog 171 #[wholeE eb, v] w fun e w' => e = .returned (.int .i64 (verdict n x)) ∧ Below w.heap.size w w' := by
  obtain ⟨vk, vz, vao, vn, vc, hsh⟩ := hv.shape
  have hmf : ∀ (fn : Fn) (first cap : Array Value) (w : World), (Instr.makeFunc fn first cap).run Tryz.prog w = .ok (.func fn first cap) w := fun _ _ _ _ => rfl
  have hent := told1_enters
  obtain ⟨w2, hw2⟩ : ∃ w2, w2 = (w.alloc (.cells #[.int .i64 7, .int .i64 0, .slice (some ⟨eb, 0, none⟩) 2 2] 41)).alloc (.cells #[.bool vk, .int .i64 vz, .slice vao vn vc] 53) := ⟨_, rfl⟩
  have hb2 : Below w.heap.size w w2 := by rw [hw2]; exact ((Below.refl w.heap.size w).alloc (Nat.le_refl _) _).alloc (by simp) _
  have ke : Blk w2 w.heap.size 41 #[.int .i64 7, .int .i64 0, .slice (some ⟨eb, 0, none⟩) 2 2] := by rw [hw2]; exact (Blk.new _ _ _).alloc _
  have kv : Blk w2 (w.heap.size + 1) 53 #[.bool vk, .int .i64 vz, .slice vao vn vc] := by rw [hw2]; have := Blk.new (w.alloc (.cells #[.int .i64 7, .int .i64 0, .slice (some ⟨eb, 0, none⟩) 2 2] 41)) 53 #[.bool vk, .int .i64 vz, .slice vao vn vc]; simpa using this
  have HP := Lib.hid (fun (i : Nat) (hi : i < 2) (wx : World) (hbx : Below w2.heap.size w2 wx) => told1_any i hi n eb w.heap.size (w.heap.size + 1) v x B0 vk vz vao vn vc hsh wx (ke.below hbx) (((show Blk w eb _ _ from he).below hb2).below hbx) (kv.below hbx) ((hv.below hb2).below hbx) hx)
  have HC0 := Lib.hid (HP.out 0 (by omega) w2 (Below.refl _ _))
  have HW := Lib.hid hw2
  have HB := Lib.hid (And.intro hb2 ke)
  obtain ⟨tx, htx⟩ : ∃ tx, tx = total x := ⟨_, rfl⟩
  rw [show partOf n x 0 = tx from htx.symm] at HC0
  have HTX := Lib.hid htx
  rw [hw2] at HC0
  rw [hsh]
  clear hw2 hb2 ke kv hv he hsh htx
  go_enter Tryz.func171, Tryz.ntmps171
  go_wp2_with fail
  refine HC0.out.mono ?_
  clear HC0
  rintro e w3 ⟨rfl, hb3⟩
  rw [← HW.out] at hb3
  have HC1 := Lib.hid (HP.out 1 (by omega) w3 hb3)
  rw [show partOf n x 1 = n from rfl] at HC1
  have hke := HB.out.2.below hb3
  have c0 : w3.cell? ⟨w.heap.size, 0, none⟩ = some (.int .i64 7) := hke.cell 0
  have HB3 := Lib.hid (And.intro (HB.out.1.trans (hb3.mono HB.out.1.size)) hke)
  clear hb3 hke
  go_wp2_with fail
  refine HC1.out.mono ?_
  clear HC1
  rintro e w4 ⟨rfl, hb4⟩
  have hke := HB3.out.2.below hb4
  have c0' : w4.cell? ⟨w.heap.size, 0, none⟩ = some (.int .i64 7) := hke.cell 0
  have HB4 := Lib.hid (HB3.out.1.trans (hb4.mono HB3.out.1.size))
  clear hb4 hke
  by_cases hlt : tx < n
  · have HV := Lib.hid (show verdict n x = 1 by unfold verdict; rw [← HTX.out, if_pos hlt])
    have HT := Lib.hid (truth_on true w4 rfl)
    go_wp2_with fail
    refine HT.out.mono ?_
    rintro e w5 ⟨rfl, rfl⟩
    go_wp2_with fail
    go_ret
    exact ⟨by rw [HV.out]; rfl, HB4.out⟩
  · have HV := Lib.hid (show verdict n x = 0 by unfold verdict; rw [← HTX.out, if_neg hlt])
    have HT := Lib.hid (truth_off (decide (tx < n)) w4 (by simp; omega))
    go_wp2_with fail
    refine HT.out.mono ?_
    rintro e w5 ⟨rfl, rfl⟩
    go_wp2_with fail
    go_ret
    exact ⟨by rw [HV.out]; rfl, HB4.out⟩
theorem eval_idle (p q : Addr) (w : World) :
    CallsD Tryz.prog 170 #[.pointer (some p), .pointer (some q)] .returning w fun e u' w' => e = .returned (.tuple #[]) ∧ u' = .returning ∧ w' = w := by
  refine callsD_of_wpS Tryz.func170 rfl fun c₀ cs hu => ?_
  apply wpS_seq
  apply wpS_region
  simp [wpOpsS, go_sem, recoverD, hu, Tryz.ntmps170, Exit.thenS]
  rw [show #[.pointer (some p), .pointer (some q)] ++ ((Array.replicate 16 undef).setIfInBounds 3 (.nilIface : Value)).setIfInBounds 0 .nilIface = #[.pointer (some p), .pointer (some q), .nilIface, undef, undef, .nilIface, undef, undef, undef, undef, undef, undef, undef, undef, undef, undef, undef, undef] from by kernel_rfl]
  refine wpS_of_wp ?_
  go_wp2_with fail
  cases c₀
  simp_all [bodyPostS, results, Tryz.results170]
set_option maxRecDepth 100000 in
set_option maxHeartbeats 2000000 in
theorem eval_any (n : Int) (eb : Nat) (v : Value) (x : V) (B0 : Nat) (w : World) (hg : Gl w) (he : ExprAt w eb n) (hv : ValAt w B0 v x) (hx : VOk x) : Calls Tryz.prog 168 #[wholeE eb, v] w fun e w' => e = .returned (.tuple #[.int .i64 (verdict n x), .nilIface]) ∧ Below w.heap.size w w' := by
  obtain ⟨vk, vz, vao, vn, vc, hsh⟩ := hv.shape
  have hmf : ∀ (fn : Fn) (first cap : Array Value) (w : World), (Instr.makeFunc fn first cap).run Tryz.prog w = .ok (.func fn first cap) w := fun _ _ _ _ => rfl
  obtain ⟨w0, hw0⟩ : ∃ w0, w0 = (((w.alloc (.cells #[.int .i64 7, .int .i64 0, .slice (some ⟨eb, 0, none⟩) 2 2] 41)).alloc (.cells #[.bool vk, .int .i64 vz, .slice vao vn vc] 53)).alloc (.cells #[.int .i64 0] 3)).alloc (.cells #[.nilIface] 100) := ⟨_, rfl⟩
  have hs0 : w0.heap.size = w.heap.size + 4 := by rw [hw0]; simp
  have hb0 : Below w.heap.size w w0 := by rw [hw0]; exact ((((Below.refl w.heap.size w).alloc (Nat.le_refl _) _).alloc (by simp) _).alloc (by simp; omega) _).alloc (by simp; omega) _
  have k0 : Blk w0 w.heap.size 41 #[.int .i64 7, .int .i64 0, .slice (some ⟨eb, 0, none⟩) 2 2] := by rw [hw0]; exact (((Blk.new _ _ _).alloc _).alloc _).alloc _
  have k1 : Blk w0 (w.heap.size + 1) 53 #[.bool vk, .int .i64 vz, .slice vao vn vc] := by rw [hw0]; exact ((show Blk ((w.alloc _).alloc (.cells #[.bool vk, .int .i64 vz, .slice vao vn vc] 53)) (w.heap.size + 1) _ _ by have := Blk.new (w.alloc (.cells #[.int .i64 7, .int .i64 0, .slice (some ⟨eb, 0, none⟩) 2 2] 41)) 53 #[.bool vk, .int .i64 vz, .slice vao vn vc]; simpa using this).alloc _).alloc _
  have k2 : Blk w0 (w.heap.size + 2) 3 #[.int .i64 0] := by rw [hw0]; exact (show Blk (((w.alloc _).alloc _).alloc (.cells #[.int .i64 0] 3)) (w.heap.size + 2) _ _ by have := Blk.new ((w.alloc (.cells #[.int .i64 7, .int .i64 0, .slice (some ⟨eb, 0, none⟩) 2 2] 41)).alloc (.cells #[.bool vk, .int .i64 vz, .slice vao vn vc] 53)) 3 #[.int .i64 0]; simpa using this).alloc _
  have k3 : Blk w0 (w.heap.size + 3) 100 #[.nilIface] := by rw [hw0]; have := Blk.new (((w.alloc (.cells #[.int .i64 7, .int .i64 0, .slice (some ⟨eb, 0, none⟩) 2 2] 41)).alloc (.cells #[.bool vk, .int .i64 vz, .slice vao vn vc] 53)).alloc (.cells #[.int .i64 0] 3)) 100 #[.nilIface]; simpa using this
  have he0 : ExprAt w0 eb n := (show Blk w eb _ _ from he).below hb0
  have HC0 := Lib.hid (expr_check n eb w0 (hg.on hb0) he0)
  have HC1 := Lib.hid (fun (wx : World) (hbx : Below w0.heap.size w0 wx) => val_check_any x v B0 wx ((hv.below hb0).below hbx))
  have HC2 := Lib.hid (fun (wx : World) (hbx : Below w0.heap.size w0 wx) => told_whole n eb v x B0 wx ((show Blk w0 eb _ _ from he0).below hbx) ((hv.below hb0).below hbx) hx)
  obtain ⟨B, hB⟩ : ∃ B, w.heap.size = B := ⟨_, rfl⟩
  have HK := Lib.hid (And.intro hb0 (And.intro k0 (And.intro k1 (And.intro k2 k3))))
  have HW := Lib.hid hw0
  have HS0 := Lib.hid hs0
  have c0 : w0.cell? ⟨B, 0, none⟩ = some (.int .i64 7) := by rw [← hB]; exact k0.cell 0
  have c1 : w0.cell? ⟨B, 1, none⟩ = some (.int .i64 0) := by rw [← hB]; exact k0.cell 1
  have c2 : w0.cell? ⟨B, 2, none⟩ = some (.slice (some ⟨eb, 0, none⟩) 2 2) := by rw [← hB]; exact k0.cell 2
  rw [hsh] at HC1 HC2 ⊢
  rw [hw0] at HC0 c0 c1 c2
  clear hw0 hb0 k0 k1 k2 k3 hs0 he0 hv he hg
  go_enter_defers Tryz.func168, Tryz.ntmps168
  go_wp2_with fail
  refine HC0.out.mono ?_
  clear HC0
  rintro e w1 ⟨rfl, hb1⟩
  rw [← HW.out] at hb1
  have HC1a := Lib.hid (HC1.out w1 hb1)
  have k1 := HK.out.2.2.1.below hb1
  rw [hB] at k1
  have d0 : w1.cell? ⟨B + 1, 0, none⟩ = some (.bool vk) := k1.cell 0
  have d1 : w1.cell? ⟨B + 1, 1, none⟩ = some (.int .i64 vz) := k1.cell 1
  have d2 : w1.cell? ⟨B + 1, 2, none⟩ = some (.slice vao vn vc) := k1.cell 2
  have HB1 := Lib.hid hb1
  clear hb1 k1 c0 c1 c2
  go_wp2_with fail
  refine HC1a.out.mono ?_
  clear HC1a
  rintro e w2 ⟨rfl, hb2⟩
  have hb2' := HB1.out.trans (hb2.mono HB1.out.size)
  have HC2a := Lib.hid (HC2.out w2 hb2')
  have k0 := HK.out.2.1.below hb2'
  have k1 := HK.out.2.2.1.below hb2'
  rw [hB] at k0 k1
  have c0 : w2.cell? ⟨B, 0, none⟩ = some (.int .i64 7) := k0.cell 0
  have c1 : w2.cell? ⟨B, 1, none⟩ = some (.int .i64 0) := k0.cell 1
  have c2 : w2.cell? ⟨B, 2, none⟩ = some (.slice (some ⟨eb, 0, none⟩) 2 2) := k0.cell 2
  have e0 : w2.cell? ⟨B + 1, 0, none⟩ = some (.bool vk) := k1.cell 0
  have e1 : w2.cell? ⟨B + 1, 1, none⟩ = some (.int .i64 vz) := k1.cell 1
  have e2 : w2.cell? ⟨B + 1, 2, none⟩ = some (.slice vao vn vc) := k1.cell 2
  have HB2 := Lib.hid hb2'
  clear hb2 hb2' k0 k1 d0 d1 d2
  go_wp2_with fail
  refine HC2a.out.mono ?_
  clear HC2a
  rintro e w3 ⟨rfl, hb3⟩
  have hb3' := HB2.out.trans (hb3.mono HB2.out.size)
  have k2 := HK.out.2.2.2.1.below hb3'
  have k3 := HK.out.2.2.2.2.below hb3'
  have HB3 := Lib.hid (And.intro k2 (And.intro k3 (HK.out.1.trans (hb3'.mono HK.out.1.size))))
  rw [hB] at k2 k3
  have g0 : w3.cell? ⟨B + 2, 0, none⟩ = some (.int .i64 0) := k2.cell 0
  have g1 : w3.cell? ⟨B + 3, 0, none⟩ = some .nilIface := k3.cell 0
  have f0 := k2.froz 0
  have f1 := k3.froz 0
  clear hb3 hb3' k2 k3
  go_wp2_with fail
  refine leaves_cons (f := 170) (args := #[.pointer (some ⟨B + 1 + 1, 0, none⟩), .pointer (some ⟨B + 1 + 1 + 1, 0, none⟩)]) (by simp) (by simp [go_sem]) ?_
  refine (eval_idle _ _ _).mono ?_
  rintro e u' w'' ⟨rfl, rfl, hw⟩
  have q2 : Blk w'' (w.heap.size + 2) 3 #[.int .i64 (verdict n x)] := by rw [hw, ← hB]; exact (HB3.out.1.set 0 _).other _ _ (by omega) _
  have q3 : Blk w'' (w.heap.size + 3) 100 #[.nilIface] := by rw [hw, ← hB]; exact (HB3.out.2.1.other _ _ (by omega) _).set 0 _
  have HBW := Lib.hid (show Below w.heap.size w w'' by rw [hw]; exact (HB3.out.2.2.setCell (by simp; omega) _).setCell (by simp; omega) _)
  clear hw
  rw [hB] at q2 q3
  have h2 := q2.cell 0
  have h3 := q3.cell 0
  simp at h2 h3
  simp [Leaves, settle, results, Tryz.results168, go_sem, Nat.add_assoc, h2, h3]
  first | exact HBW.out | (rw [← hB]; exact HBW.out)
end Go.Proofs.YtalbllijahiiiaaGreatDoor
end
