/- expr.told, Eval, Fails at a desk's expression. -/
import Derived.Test.YtalbllijahiiiaaGreatDoorDesk17
import Derived.Deep.RegionLaw
namespace Go.Proofs.YtalbllijahiiiaaGreatDoor
open Go.RowKit Go.Mine Go.Mine.Desk

theorem numbers_any (x : V) (v : Value) (B : Nat) (w : World) (hv : ValAt w B v x) (hx : VOk x) (sb : Nat) (hne : valBlock v ≠ some sb) (hk : Blk w sb 3 #[.int .i64 0]) : Calls Tryz.prog 174 #[v, .func (.func 175) #[] #[.pointer (some ⟨sb, 0, none⟩)]] w (Summed sb w (total x)) := by
  cases x with
  | num z =>
    rw [show v = numV' z from hv]
    have h := numbers_num z 0 hx (by simp [big]) sb w hk
    rw [Int.zero_add] at h
    exact h
  | list zs =>
    obtain ⟨ao, c, h1, h2⟩ := hv.open
    rw [h1] at hne ⊢
    exact numbers_list zs ao c hx.1 hx.2 sb w h2 (fun b hb e => hne (by rw [hb, e]; rfl)) hk
theorem total_big {x : V} (h : VOk x) : big (total x) := by
  cases x with
  | num z => unfold VOk small at h; show -1099511627776 ≤ z ∧ z ≤ 1099511627776; omega
  | list zs =>
    obtain ⟨h1, h2⟩ := h
    have hs : ∀ l : List Int, (∀ z ∈ l, small z) → -2147483648 * (l.length : Int) ≤ l.sum ∧ l.sum ≤ 2147483648 * (l.length : Int) := by
      intro l
      induction l with
      | nil => intro _; simp
      | cons y r ih =>
        intro h
        obtain ⟨i1, i2⟩ := ih (fun z hz => h z (List.mem_cons_of_mem _ hz))
        have := h y List.mem_cons_self
        unfold small at this
        simp only [List.sum_cons, List.length_cons]
        omega
    have := hs zs h2
    show -1099511627776 ≤ zs.sum ∧ zs.sum ≤ 1099511627776
    omega
set_option maxRecDepth 100000 in
set_option maxHeartbeats 1000000 in
theorem told_lit (n : Int) (v : Value) (x : V) (B0 : Nat) (w : World) (hv : ValAt w B0 v x) : Calls Tryz.prog 171 #[leafE 1 n, v] w fun e w' => e = .returned (.int .i64 n) ∧ Below w.heap.size w w' := by
  obtain ⟨vk, vz, vao, vn, vc, rfl⟩ := hv.shape
  have hmf : ∀ (fn : Fn) (first cap : Array Value) (w : World), (Instr.makeFunc fn first cap).run Tryz.prog w = .ok (.func fn first cap) w := fun _ _ _ _ => rfl
  have HB := Lib.hid (show Below w.heap.size w ((w.alloc (.cells #[.int .i64 1, .int .i64 n, .slice none 0 0] 41)).alloc (.cells #[.bool vk, .int .i64 vz, .slice vao vn vc] 53)) from ((Below.refl _ _).alloc (Nat.le_refl _) _).alloc (by simp) _)
  clear hv
  go_enter Tryz.func171, Tryz.ntmps171
  go_wp2_with fail
  go_ret
  exact ⟨rfl, HB.out⟩
set_option maxRecDepth 100000 in
set_option maxHeartbeats 1000000 in
theorem told_sum (v : Value) (x : V) (B0 : Nat) (w : World) (hv : ValAt w B0 v x) (hx : VOk x) : Calls Tryz.prog 171 #[leafE 2 0, v] w fun e w' => e = .returned (.int .i64 (total x)) ∧ Below w.heap.size w w' := by
  obtain ⟨vk, vz, vao, vn, vc, hsh⟩ := hv.shape
  have hmf : ∀ (fn : Fn) (first cap : Array Value) (w : World), (Instr.makeFunc fn first cap).run Tryz.prog w = .ok (.func fn first cap) w := fun _ _ _ _ => rfl
  obtain ⟨w2, hw2⟩ : ∃ w2, w2 = ((w.alloc (.cells #[.int .i64 2, .int .i64 0, .slice none 0 0] 41)).alloc (.cells #[.bool vk, .int .i64 vz, .slice vao vn vc] 53)).alloc (.cells #[.int .i64 0] 3) := ⟨_, rfl⟩
  have hb2 : Below w.heap.size w w2 := by rw [hw2]; exact (((Below.refl w.heap.size w).alloc (Nat.le_refl _) _).alloc (by simp) _).alloc (by simp; omega) _
  have ks : Blk w2 (w.heap.size + 1 + 1) 3 #[.int .i64 0] := by rw [hw2]; have := Blk.new ((w.alloc (.cells #[.int .i64 2, .int .i64 0, .slice none 0 0] 41)).alloc (.cells #[.bool vk, .int .i64 vz, .slice vao vn vc] 53)) 3 #[.int .i64 0]; simpa using this
  have hv2 := hv.below hb2
  have HC := Lib.hid (numbers_any x v B0 w2 hv2 hx (w.heap.size + 1 + 1) (fun e => by have := (hv.lt _ e).2; omega) ks)
  have HW := Lib.hid hw2
  have HB := Lib.hid hb2
  rw [hsh] at HC ⊢
  rw [hw2] at HC
  clear hw2 hb2 ks hv2 hv
  go_enter Tryz.func171, Tryz.ntmps171
  go_wp2_with fail
  refine HC.out.mono ?_
  clear HC
  rintro e w3 ⟨rfl, ht3, hk3⟩
  rw [← HW.out] at ht3
  have c0 : w3.cell? ⟨w.heap.size + 1 + 1, 0, none⟩ = some (.int .i64 (total x)) := hk3.cell 0
  have HB3 := Lib.hid (show Below w.heap.size w w3 from ((Tch.of_below (S := fun k => k = w.heap.size + 1 + 1) HB.out).trans ht3 (fun _ h => .inl h)).below (Nat.le_refl _) (fun k h => by omega))
  clear ht3 hk3
  go_wp2_with fail
  go_ret
  exact ⟨rfl, HB3.out⟩
/-- What the two parts are told to be. -/
def partOf (n : Int) (x : V) (i : Nat) : Int := if i = 0 then total x else n
set_option maxRecDepth 100000 in
set_option maxHeartbeats 1000000 in
theorem told1_any (i : Nat) (hi : i < 2) (n : Int) (eb eB vB : Nat) (v : Value) (x : V) (B0 : Nat) (vk : Bool) (vz : Int) (vao : Option Addr) (vn vc : Nat) (hsh : v = .agg #[.bool vk, .int .i64 vz, .slice vao vn vc]) (w : World)
    (ke : Blk w eB 41 #[.int .i64 7, .int .i64 0, .slice (some ⟨eb, 0, none⟩) 2 2]) (he : ExprAt w eb n) (kv : Blk w vB 53 #[.bool vk, .int .i64 vz, .slice vao vn vc]) (hv : ValAt w B0 v x) (hx : VOk x) :
    Calls Tryz.prog 173 #[.int .i64 (i : Int), .pointer (some ⟨eB, 0, none⟩), .pointer (some ⟨vB, 0, none⟩)] w fun e w' => e = .returned (.int .i64 (partOf n x i)) ∧ Below w.heap.size w w' := by
  have c2 : w.cell? ⟨eB, 2, none⟩ = some (.slice (some ⟨eb, 0, none⟩) 2 2) := ke.cell 2
  have q0 : w.cell? ⟨eb, 0, none⟩ = some (.int .i64 2) := Blk.cell he 0
  have q1 : w.cell? ⟨eb, 1, none⟩ = some (.int .i64 0) := Blk.cell he 1
  have q2 : w.cell? ⟨eb, 2, none⟩ = some (.slice none 0 0) := Blk.cell he 2
  have q3 : w.cell? ⟨eb, 3, none⟩ = some (.int .i64 1) := Blk.cell he 3
  have q4 : w.cell? ⟨eb, 4, none⟩ = some (.int .i64 n) := Blk.cell he 4
  have q5 : w.cell? ⟨eb, 5, none⟩ = some (.slice none 0 0) := Blk.cell he 5
  have d0 : w.cell? ⟨vB, 0, none⟩ = some (.bool vk) := kv.cell 0
  have d1 : w.cell? ⟨vB, 1, none⟩ = some (.int .i64 vz) := kv.cell 1
  have d2 : w.cell? ⟨vB, 2, none⟩ = some (.slice vao vn vc) := kv.cell 2
  have HC0 := told_sum v x B0 w.drew hv hx
  have HC1 := told_lit n v x B0 w.drew hv
  rw [hsh] at HC0 HC1
  clear ke he kv hv hsh
  have hi' : i = 0 ∨ i = 1 := by omega
  rcases hi' with rfl | rfl
  · have HC := Lib.hid HC0
    clear HC0 HC1
    go_enter Tryz.func173, Tryz.ntmps173
    go_wp2_with fail
    go_region_law (go_simp; go_at_call 171; refine HC.out.mono ?_; rintro e w9 ⟨rfl, hb9⟩)
    all_goals
      have HB9 := Lib.hid (show Below w.heap.size w w9 from ((Below.refl _ w).drew).trans hb9)
      clear hb9
      go_wp2_with fail
      go_ret
      exact ⟨rfl, HB9.out⟩
  · have HC := Lib.hid HC1
    clear HC0 HC1
    go_enter Tryz.func173, Tryz.ntmps173
    go_wp2_with fail
    go_region_law (go_simp; go_at_call 171; refine HC.out.mono ?_; rintro e w9 ⟨rfl, hb9⟩)
    all_goals
      have HB9 := Lib.hid (show Below w.heap.size w w9 from ((Below.refl _ w).drew).trans hb9)
      clear hb9
      go_wp2_with fail
      go_ret
      exact ⟨rfl, HB9.out⟩
end Go.Proofs.YtalbllijahiiiaaGreatDoor
