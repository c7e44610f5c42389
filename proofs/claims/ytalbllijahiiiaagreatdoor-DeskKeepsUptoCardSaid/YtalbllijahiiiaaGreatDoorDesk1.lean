/- gen.parts, one, each, Check, count, Count at a desk's generators. No conditions but what is read. -/
import Derived.Test.YtalbllijahiiiaaGreatDoorDesk0
import Derived.Test.YtalbllijahiiiaaGreatDoorInts
import Derived.Test.YtalbllijahiiiaaGreatDoorMore
namespace Go.Proofs.YtalbllijahiiiaaGreatDoor
open Go.RowKit Go.Mine Go.Mine.Desk

/-- An Int's value. -/
abbrev intG (a b : Int) : Value := .agg #[.int .i64 2, .int .i64 a, .int .i64 b, .slice none 0 0]
abbrev manyG (n : Int) (gb : Nat) : Value := .agg #[.int .i64 4, .int .i64 n, .int .i64 0, .slice (some ⟨gb, 0, none⟩) 1 1]
def SubAt (w : World) (gb : Nat) (a b : Int) : Prop := w.heap[gb]? = some (.cells #[.int .i64 2, .int .i64 a, .int .i64 b, .slice none 0 0] 28 (0, 0))
theorem SubAt.lt {w : World} {gb : Nat} {a b : Int} (h : SubAt w gb a b) : gb < w.heap.size := (Array.getElem?_eq_some_iff.1 h).1
theorem SubAt.on {w w' : World} {gb : Nat} {a b : Int} (h : SubAt w gb a b) (hb : Below w.heap.size w w') : SubAt w' gb a b := (hb.block gb h.lt).trans h
theorem SubAt.c0 {w : World} {gb : Nat} {a b : Int} (h : SubAt w gb a b) : w.cell? ⟨gb, 0, none⟩ = some (.int .i64 2) := by rw [cell_of_row w _ 0 _ _ _ h]; rfl
theorem SubAt.c1 {w : World} {gb : Nat} {a b : Int} (h : SubAt w gb a b) : w.cell? ⟨gb, 1, none⟩ = some (.int .i64 a) := by rw [cell_of_row w _ 1 _ _ _ h]; rfl
theorem SubAt.c2 {w : World} {gb : Nat} {a b : Int} (h : SubAt w gb a b) : w.cell? ⟨gb, 2, none⟩ = some (.int .i64 b) := by rw [cell_of_row w _ 2 _ _ _ h]; rfl
theorem SubAt.c3 {w : World} {gb : Nat} {a b : Int} (h : SubAt w gb a b) : w.cell? ⟨gb, 3, none⟩ = some (.slice none 0 0) := by rw [cell_of_row w _ 3 _ _ _ h]; rfl
/-- Four cells of a block. -/
def RowAt (w : World) (bk : Nat) (cs : Array Value) : Prop := w.heap[bk]? = some (.cells cs 28 (0, 0))
theorem RowAt.on {w w' : World} {bk : Nat} {cs : Array Value} (h : RowAt w bk cs) (hb : Below w.heap.size w w') : RowAt w' bk cs := (hb.block bk (Array.getElem?_eq_some_iff.1 h).1).trans h
theorem RowAt.cell {w : World} {bk : Nat} {cs : Array Value} (h : RowAt w bk cs) (i : Nat) : w.cell? ⟨bk, i, none⟩ = cs[i]? := cell_of_row w _ i _ _ _ h
/-- A generator that is told by a value. -/
def GenAt (w : World) (v : Value) : G → Prop
  | .int a b => v = intG a b
  | .many n a b => ∃ gb, v = manyG n gb ∧ SubAt w gb a b
theorem GenAt.on {w w' : World} {v : Value} : ∀ {g : G}, GenAt w v g → Below w.heap.size w w' → GenAt w' v g
  | .int _ _, h, _ => h
  | .many _ _ _, ⟨gb, h1, h2⟩, hb => ⟨gb, h1, h2.on hb⟩

/-! gen.parts -/
theorem parts_int (a b d : Int) (hd : 0 ≤ d ∧ d < 6) (w : World) : Calls Tryz.prog 108 #[intG a b, .int .i64 d] w fun e w' => e = .returned (.tuple #[.int .i64 1, .bool true]) ∧ Below w.heap.size w w' := by
  have h1 : decide (d < 6) = true := decide_eq_true hd.2
  have h2 := hd.1
  have h3 := hd.2
  have HB := Lib.hid ((Below.refl w.heap.size w).alloc (Nat.le_refl _) (.cells #[.int .i64 2, .int .i64 a, .int .i64 b, .slice none 0 0] 28))
  go_enter Tryz.func108, Tryz.ntmps108
  go_wp2_with fail
  refine wp_loop_rounds 1 ?_
  rw [rounds_succ]
  go_wp2_with fail
  go_ret2
  exact ⟨rfl, HB.out⟩
set_option maxHeartbeats 1000000 in
theorem parts_many (n a b : Int) (gb : Nat) (w : World) (hs : SubAt w gb a b) : Calls Tryz.prog 108 #[manyG n gb, .int .i64 0] w fun e w' => e = .returned (.tuple #[.int .i64 2, .bool true]) ∧ Below w.heap.size w w' := by
  obtain ⟨w1, hw1⟩ : ∃ w1, w1 = w.alloc (.cells #[.int .i64 4, .int .i64 n, .int .i64 0, .slice (some ⟨gb, 0, none⟩) 1 1] 28) := ⟨_, rfl⟩
  have hb1 : Below w.heap.size w w1 := by rw [hw1]; exact (Below.refl _ _).alloc (Nat.le_refl _) _
  have hs1 := hs.on hb1
  obtain ⟨w2, hw2⟩ : ∃ w2, w2 = w1.alloc (.cells #[.int .i64 2, .int .i64 a, .int .i64 b, .slice none 0 0] 28) := ⟨_, rfl⟩
  have hb2 : Below w.heap.size w w2 := by rw [hw2]; exact hb1.alloc hb1.size _
  have HC := Lib.hid (parts_int a b 1 (by omega) w2)
  have c0 := hs1.c0
  have c1 := hs1.c1
  have c2 := hs1.c2
  have c3 := hs1.c3
  have HB2 := Lib.hid hb2
  rw [hw2, hw1] at HC
  rw [hw1] at c0 c1 c2 c3
  have HW := Lib.hid (And.intro hw1 hw2)
  clear hs hs1 hb1 hb2 hw1 hw2
  go_enter Tryz.func108, Tryz.ntmps108
  go_wp2_with fail
  refine wp_loop_rounds 2 ?_
  rw [rounds_succ]
  go_wp2_with fail
  refine HC.out.mono ?_
  clear HC
  rintro e w3 ⟨rfl, hb3⟩
  have HB3 := Lib.hid (HB2.out.trans (by rw [HW.out.2, HW.out.1]; exact hb3.mono (by simp; omega)))
  clear hb3
  go_wp2_with fail
  rw [rounds_succ]
  go_wp2_with fail
  go_ret2
  exact ⟨rfl, HB3.out⟩

/-! gen.number, one, each, Check -/
theorem gnumber_any (x : Int) (hx : near x) (w : World) : Calls Tryz.prog 154 #[.int .i64 x] w fun e w' => e = .returned (.bool true) ∧ w' = w := by
  unfold near at hx
  have h1 : decide (-1073741824 ≤ x) = true := decide_eq_true hx.1
  have h2 : decide (x ≤ 1073741824) = true := decide_eq_true hx.2
  have h3 := hx.1
  have h4 := hx.2
  clear hx
  go_enter Tryz.func154, Tryz.ntmps154
  go_wp2_with fail
  go_ret
  exact ⟨by simp, rfl⟩
/-- What is wrong with a desk's generator. -/
def faultI (a b : Int) : Int := if a ≤ b ∧ b - a ≤ 1000 then 0 else 1
def faultG : G → Int
  | .int a b => faultI a b
  | .many n a b => if 0 ≤ n ∧ n ≤ 5 then faultI a b else 1
/-- Nothing, or an error with its number. -/
def errV (c : Int) : Value := if c = 0 then .nilIface else .iface 36 (.int .i64 c)

set_option maxHeartbeats 2000000 in
theorem one_int (a b : Int) (ha : near a) (hb : near b) (w : World) : Calls Tryz.prog 134 #[intG a b] w fun e w' => e = .returned (errV (faultI a b)) ∧ Below w.heap.size w w' := by
  have HB := Lib.hid ((Below.refl w.heap.size w).alloc (Nat.le_refl _) (.cells #[.int .i64 2, .int .i64 a, .int .i64 b, .slice none 0 0] 28))
  have HA1 := Lib.hid (fun w => gnumber_any a ha w)
  have HB1 := Lib.hid (fun w => gnumber_any b hb w)
  have hr1 : -2147483648 ≤ b - a ∧ b - a ≤ 2147483648 := by unfold near at ha hb; omega
  have hr2 := hr1.1
  have hr3 := hr1.2
  clear ha hb hr1
  by_cases h1 : b < a
  · have d1 : decide (b < a) = true := decide_eq_true h1
    have HF := Lib.hid (show faultI a b = 1 by unfold faultI; rw [if_neg (by omega)])
    go_enter Tryz.func134, Tryz.ntmps134
    go_wp2_with fail
    refine (HA1.out _).mono ?_
    rintro e w1 ⟨rfl, rfl⟩
    go_wp2_with fail
    refine (HB1.out _).mono ?_
    rintro e w1 ⟨rfl, rfl⟩
    go_wp2_with fail
    go_ret
    rw [HF.out]
    exact ⟨rfl, HB.out⟩
  · have d1 : decide (b < a) = false := decide_eq_false h1
    by_cases h2 : 1000 < b - a
    · have d2 : decide (1000 < b - a) = true := decide_eq_true h2
      have HF := Lib.hid (show faultI a b = 1 by unfold faultI; rw [if_neg (by omega)])
      go_enter Tryz.func134, Tryz.ntmps134
      go_wp2_with fail
      refine (HA1.out _).mono ?_
      rintro e w1 ⟨rfl, rfl⟩
      go_wp2_with fail
      refine (HB1.out _).mono ?_
      rintro e w1 ⟨rfl, rfl⟩
      go_wp2_with fail
      go_ret
      rw [HF.out]
      exact ⟨rfl, HB.out⟩
    · have d2 : decide (1000 < b - a) = false := decide_eq_false h2
      have HF := Lib.hid (show faultI a b = 0 by unfold faultI; rw [if_pos (by omega)])
      go_enter Tryz.func134, Tryz.ntmps134
      go_wp2_with fail
      refine (HA1.out _).mono ?_
      rintro e w1 ⟨rfl, rfl⟩
      go_wp2_with fail
      refine (HB1.out _).mono ?_
      rintro e w1 ⟨rfl, rfl⟩
      go_wp2_with fail
      go_ret
      rw [HF.out]
      exact ⟨rfl, HB.out⟩
set_option maxHeartbeats 1000000 in
theorem one_many (n : Int) (gb : Nat) (w : World) : Calls Tryz.prog 134 #[manyG n gb] w fun e w' => e = .returned (errV (if 0 ≤ n ∧ n ≤ 5 then 0 else 1)) ∧ Below w.heap.size w w' := by
  have HB := Lib.hid ((Below.refl w.heap.size w).alloc (Nat.le_refl _) (.cells #[.int .i64 4, .int .i64 n, .int .i64 0, .slice (some ⟨gb, 0, none⟩) 1 1] 28))
  by_cases h1 : n < 0
  · have d1 : decide (n < 0) = true := decide_eq_true h1
    rw [show (if 0 ≤ n ∧ n ≤ 5 then (0 : Int) else 1) = 1 from if_neg (by omega)]
    go_enter Tryz.func134, Tryz.ntmps134
    go_wp2_with fail
    go_ret
    exact ⟨rfl, HB.out⟩
  · have d1 : decide (n < 0) = false := decide_eq_false h1
    by_cases h2 : 5 < n
    · have d2 : decide (5 < n) = true := decide_eq_true h2
      rw [show (if 0 ≤ n ∧ n ≤ 5 then (0 : Int) else 1) = 1 from if_neg (by omega)]
      go_enter Tryz.func134, Tryz.ntmps134
      go_wp2_with fail
      go_ret
      exact ⟨rfl, HB.out⟩
    · have d2 : decide (5 < n) = false := decide_eq_false h2
      rw [show (if 0 ≤ n ∧ n ≤ 5 then (0 : Int) else 1) = 0 from if_pos (by omega)]
      go_enter Tryz.func134, Tryz.ntmps134
      go_wp2_with fail
      go_ret
      exact ⟨rfl, HB.out⟩
theorem errV_zero : errV 0 = .nilIface := by unfold errV; rw [if_pos rfl]
theorem errV_ne {c : Int} (h : c ≠ 0) : errV c = .iface 36 (.int .i64 c) := by unfold errV; rw [if_neg h]
theorem faultI_cases (a b : Int) : faultI a b = 0 ∨ faultI a b = 1 := by unfold faultI; split <;> simp
theorem faultG_cases (g : G) : faultG g = 0 ∨ faultG g = 1 := by
  cases g with
  | int a b => exact faultI_cases a b
  | many n a b =>
    show (if 0 ≤ n ∧ n ≤ 5 then faultI a b else 1) = 0 ∨ (if 0 ≤ n ∧ n ≤ 5 then faultI a b else 1) = 1
    split
    · exact faultI_cases a b
    · exact .inr rfl
theorem each_int (a b : Int) (ha : near a) (hb : near b) (w : World) : Calls Tryz.prog 109 #[intG a b] w fun e w' => e = .returned (errV (faultI a b)) ∧ Below w.heap.size w w' := by
  obtain ⟨w1, hw1⟩ : ∃ w1, w1 = w.alloc (.cells #[.int .i64 2, .int .i64 a, .int .i64 b, .slice none 0 0] 28) := ⟨_, rfl⟩
  have hb1 : Below w.heap.size w w1 := by rw [hw1]; exact (Below.refl _ _).alloc (Nat.le_refl _) _
  have hr1 : RowAt w1 w.heap.size #[.int .i64 2, .int .i64 a, .int .i64 b, .slice none 0 0] := by rw [hw1]; exact heap_alloc_new _ _
  have HC := Lib.hid (one_int a b ha hb w1)
  have HR := Lib.hid (And.intro hb1 hr1)
  rw [hw1] at HC
  have HW := Lib.hid hw1
  rcases faultI_cases a b with hf | hf
  · rw [hf, errV_zero] at HC ⊢
    clear hb1 hr1 hw1 ha hb hf
    go_enter Tryz.func109, Tryz.ntmps109
    go_wp2_with fail
    refine HC.out.mono ?_
    clear HC
    rintro e w2 ⟨rfl, hb2⟩
    rw [← HW.out] at hb2
    have hr2 := HR.out.2.on hb2
    have c3 := hr2.cell 3
    have HB2 := Lib.hid (HR.out.1.trans (hb2.mono HR.out.1.size))
    clear hb2 hr2
    go_wp2_with fail
    refine wp_loop_rounds 1 ?_
    rw [rounds_succ]
    go_wp2_with fail
    go_ret
    exact ⟨rfl, HB2.out⟩
  · rw [hf, errV_ne (by decide)] at HC ⊢
    clear hb1 hr1 hw1 ha hb hf
    go_enter Tryz.func109, Tryz.ntmps109
    go_wp2_with fail
    refine HC.out.mono ?_
    clear HC
    rintro e w2 ⟨rfl, hb2⟩
    rw [← HW.out] at hb2
    have HB2 := Lib.hid (HR.out.1.trans (hb2.mono HR.out.1.size))
    clear hb2
    go_wp2_with fail
    go_ret
    exact ⟨rfl, HB2.out⟩
set_option maxHeartbeats 1000000 in
theorem each_many (n a b : Int) (gb : Nat) (ha : near a) (hb : near b) (w : World) (hs : SubAt w gb a b) : Calls Tryz.prog 109 #[manyG n gb] w fun e w' => e = .returned (errV (faultG (.many n a b))) ∧ Below w.heap.size w w' := by
  obtain ⟨w1, hw1⟩ : ∃ w1, w1 = w.alloc (.cells #[.int .i64 4, .int .i64 n, .int .i64 0, .slice (some ⟨gb, 0, none⟩) 1 1] 28) := ⟨_, rfl⟩
  have hb1 : Below w.heap.size w w1 := by rw [hw1]; exact (Below.refl _ _).alloc (Nat.le_refl _) _
  have hr1 : RowAt w1 w.heap.size #[.int .i64 4, .int .i64 n, .int .i64 0, .slice (some ⟨gb, 0, none⟩) 1 1] := by rw [hw1]; exact heap_alloc_new _ _
  have HC := Lib.hid (one_many n gb w1)
  have HR := Lib.hid (And.intro hb1 (And.intro hr1 (hs.on hb1)))
  rw [hw1] at HC
  have HW := Lib.hid hw1
  have HE := Lib.hid (fun w => each_int a b ha hb w)
  by_cases hn : 0 ≤ n ∧ n ≤ 5
  · rw [if_pos hn, errV_zero] at HC
    rw [show faultG (.many n a b) = faultI a b from if_pos hn]
    obtain ⟨f, hf⟩ : ∃ f, f = faultI a b := ⟨_, rfl⟩
    have hfc := faultI_cases a b
    rw [← hf] at HE hfc ⊢
    clear hb1 hr1 hw1 ha hb hf hs
    go_enter Tryz.func109, Tryz.ntmps109
    go_wp2_with fail
    refine HC.out.mono ?_
    clear HC
    rintro e w2 ⟨rfl, hb2⟩
    rw [← HW.out] at hb2
    have hr2 := HR.out.2.1.on hb2
    have hs2 := HR.out.2.2.on hb2
    have c3 := hr2.cell 3
    have s0 := hs2.c0
    have s1 := hs2.c1
    have s2 := hs2.c2
    have s3 := hs2.c3
    have hb2' := HR.out.1.trans (hb2.mono HR.out.1.size)
    have HB2 := Lib.hid (hb2'.alloc hb2'.size (.cells #[.int .i64 2, .int .i64 a, .int .i64 b, .slice none 0 0] 28))
    clear hb2 hr2 hs2 hb2'
    go_wp2_with fail
    refine wp_loop_rounds 2 ?_
    rw [rounds_succ]
    go_wp2_with fail
    refine (HE.out _).mono ?_
    clear HE
    rintro e w3 ⟨rfl, hb3⟩
    have HB3 := Lib.hid (HB2.out.trans (hb3.mono HB2.out.size))
    clear hb3
    rcases hfc with rfl | rfl
    · rw [errV_zero]
      go_wp2_with fail
      rw [rounds_succ]
      go_wp2_with fail
      go_ret
      exact ⟨rfl, HB3.out⟩
    · rw [errV_ne (by decide)]
      go_wp2_with fail
      go_ret
      exact ⟨rfl, HB3.out⟩
  · rw [if_neg hn, errV_ne (by decide)] at HC
    rw [show faultG (.many n a b) = 1 from if_neg hn, errV_ne (by decide)]
    clear hb1 hr1 hw1 ha hb hs hn
    go_enter Tryz.func109, Tryz.ntmps109
    go_wp2_with fail
    refine HC.out.mono ?_
    clear HC
    rintro e w2 ⟨rfl, hb2⟩
    rw [← HW.out] at hb2
    have HB2 := Lib.hid (HR.out.1.trans (hb2.mono HR.out.1.size))
    clear hb2
    go_wp2_with fail
    go_ret
    exact ⟨rfl, HB2.out⟩

set_option maxHeartbeats 1000000 in
/-- gen.Check. -/
theorem check_any (g : G) (v : Value) (hn : g.near) (w : World) (hv : GenAt w v g) : Calls Tryz.prog 79 #[v] w fun e w' => e = .returned (errV (faultG g)) ∧ Below w.heap.size w w' := by
  cases g with
  | int a b =>
    obtain rfl : v = intG a b := hv
    obtain ⟨w1, hw1⟩ : ∃ w1, w1 = w.alloc (.cells #[.int .i64 2, .int .i64 a, .int .i64 b, .slice none 0 0] 28) := ⟨_, rfl⟩
    have hb1 : Below w.heap.size w w1 := by rw [hw1]; exact (Below.refl _ _).alloc (Nat.le_refl _) _
    have hr1 : RowAt w1 w.heap.size #[.int .i64 2, .int .i64 a, .int .i64 b, .slice none 0 0] := by rw [hw1]; exact heap_alloc_new _ _
    have HC := Lib.hid (parts_int a b 0 (by omega) w1)
    have HE := Lib.hid (fun w => each_int a b hn.1 hn.2 w)
    have HR := Lib.hid (And.intro hb1 hr1)
    rw [hw1] at HC
    have HW := Lib.hid hw1
    rw [show faultG (.int a b) = faultI a b from rfl]
    clear hb1 hr1 hw1 hn
    go_enter Tryz.func79, Tryz.ntmps79
    go_wp2_with fail
    refine HC.out.mono ?_
    clear HC
    rintro e w2 ⟨rfl, hb2⟩
    rw [← HW.out] at hb2
    have hr2 := HR.out.2.on hb2
    have s0 := hr2.cell 0
    have s1 := hr2.cell 1
    have s2 := hr2.cell 2
    have s3 := hr2.cell 3
    have HB2 := Lib.hid (HR.out.1.trans (hb2.mono HR.out.1.size))
    clear hb2 hr2
    go_wp2_with fail
    refine (HE.out _).mono ?_
    clear HE
    rintro e w3 ⟨rfl, hb3⟩
    have HB3 := Lib.hid (HB2.out.trans (hb3.mono HB2.out.size))
    clear hb3
    go_wp2_with fail
    go_ret
    exact ⟨rfl, HB3.out⟩
  | many n a b =>
    obtain ⟨gb, rfl, hs⟩ := hv
    obtain ⟨w1, hw1⟩ : ∃ w1, w1 = w.alloc (.cells #[.int .i64 4, .int .i64 n, .int .i64 0, .slice (some ⟨gb, 0, none⟩) 1 1] 28) := ⟨_, rfl⟩
    have hb1 : Below w.heap.size w w1 := by rw [hw1]; exact (Below.refl _ _).alloc (Nat.le_refl _) _
    have hr1 : RowAt w1 w.heap.size #[.int .i64 4, .int .i64 n, .int .i64 0, .slice (some ⟨gb, 0, none⟩) 1 1] := by rw [hw1]; exact heap_alloc_new _ _
    have hs1 := hs.on hb1
    have HC := Lib.hid (parts_many n a b gb w1 hs1)
    have HE := Lib.hid (fun w h => each_many n a b gb hn.2.1 hn.2.2 w h)
    have HR := Lib.hid (And.intro hb1 (And.intro hr1 hs1))
    rw [hw1] at HC
    have HW := Lib.hid hw1
    obtain ⟨f, hf⟩ : ∃ f, f = faultG (.many n a b) := ⟨_, rfl⟩
    rw [← hf] at HE ⊢
    clear hb1 hr1 hw1 hn hs hs1 hf
    go_enter Tryz.func79, Tryz.ntmps79
    go_wp2_with fail
    refine HC.out.mono ?_
    clear HC
    rintro e w2 ⟨rfl, hb2⟩
    rw [← HW.out] at hb2
    have hr2 := HR.out.2.1.on hb2
    have HS2 := Lib.hid (HR.out.2.2.on hb2)
    have s0 := hr2.cell 0
    have s1 := hr2.cell 1
    have s2 := hr2.cell 2
    have s3 := hr2.cell 3
    have HB2 := Lib.hid (HR.out.1.trans (hb2.mono HR.out.1.size))
    clear hb2 hr2
    go_wp2_with fail
    refine (HE.out _ HS2.out).mono ?_
    clear HE
    rintro e w3 ⟨rfl, hb3⟩
    have HB3 := Lib.hid (HB2.out.trans (hb3.mono HB2.out.size))
    clear hb3
    go_wp2_with fail
    go_ret
    exact ⟨rfl, HB3.out⟩
end Go.Proofs.YtalbllijahiiiaaGreatDoor
