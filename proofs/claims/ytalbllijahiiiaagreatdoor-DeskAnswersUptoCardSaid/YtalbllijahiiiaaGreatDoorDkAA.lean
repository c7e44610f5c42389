/- strconv.Itoa, Atoi as they are met; desk.number. CONDITION: the package-level variables hold what start-up lays there (Gl). gen.parts, one, each, Check, count, Count at a desk's generators. No conditions but what is read. -/
import Derived.Test.YtalbllijahiiiaaGreatDoorShelf
import Derived.Test.YtalbllijahiiiaaGreatDoorLib
import Derived.Test.YtalbllijahiiiaaGreatDoorDeskP
import Derived.Below
import Derived.Recover
import Derived.Defers
import Derived.Lib.UnsafeStr
import Derived.Deep.QuietTactic
import Derived.BigQuiet
import Derived.Test.YtalbllijahiiiaaGreatDoorInts
import Derived.Test.YtalbllijahiiiaaGreatDoorMore
section
namespace Go.Proofs.YtalbllijahiiiaaGreatDoor
open Go.RowKit Go.Mine Go.Mine.Desk

def takesL : List Int := [-1, 0, 0, 0, 0, 2, 2, 2, 2, 1, 2, 2]
structure Gl (w : World) : Prop where
  size : 9 ≤ w.heap.size
  maxLen : ∃ m, w.cell? ⟨0, 0, none⟩ = some (.int .i64 m)
  synE : ∃ ev, w.cell? ⟨3, 0, none⟩ = some ev ∧ (ev = .nilIface ∨ ∃ te pe, ev = .iface te pe)
  ranE : ∃ ev, w.cell? ⟨4, 0, none⟩ = some ev ∧ (ev = .nilIface ∨ ∃ te pe, ev = .iface te pe)
  pow : w.cell? ⟨0, 0, none⟩ ≠ none → Go.Lib.TabIs Tryz.prog w "internal/strconv.uint64pow10" .u64 Go.Lib.pow10Tab
  takes : ∀ k, k < 12 → w.cell? ⟨6, k, none⟩ = some (.int .i64 (takesL.getD k 0))
theorem tab_below {P : Program} {w w' : World} {name : String} {k : IntKind} {zs : List Int} {B : Nat} (h : Go.Lib.TabIs P w name k zs) (hb : Below B w w') (hB : ∀ g, P.globalNamed name = some g → g < B) : Go.Lib.TabIs P w' name k zs := by
  unfold Go.Lib.TabIs World.var? at *
  cases hg : P.globalNamed name with
  | none => simp [hg] at h
  | some g =>
    simp only [hg, Option.bind_some] at h ⊢
    rw [hb.block g (hB g hg)]
    exact h
theorem pow_at : Tryz.prog.globalNamed "internal/strconv.uint64pow10" = some 5 := by kernel_rfl
theorem Gl.below {w w' : World} (h : Gl w) {B : Nat} (hB : 9 ≤ B) (hb : Below B w w') : Gl w' where
  size := Nat.le_trans h.size hb.size
  maxLen := by obtain ⟨m, hm⟩ := h.maxLen; exact ⟨m, (hb.cell (by simp; omega)).trans hm⟩
  synE := by obtain ⟨m, hm, h2⟩ := h.synE; exact ⟨m, (hb.cell (by simp; omega)).trans hm, h2⟩
  ranE := by obtain ⟨m, hm, h2⟩ := h.ranE; exact ⟨m, (hb.cell (by simp; omega)).trans hm, h2⟩
  pow := fun _ => by
    obtain ⟨m, hm⟩ := h.maxLen
    exact tab_below (h.pow (by rw [hm]; simp)) hb (fun g hg => by rw [pow_at] at hg; cases hg; omega)
  takes := fun k hk => (hb.cell (by simp; omega)).trans (h.takes k hk)
theorem Gl.on {w w' : World} (h : Gl w) (hb : Below w.heap.size w w') : Gl w' := h.below h.size hb
theorem Gl.tab {w : World} (h : Gl w) : Go.Lib.TabIs Tryz.prog w "internal/strconv.uint64pow10" .u64 Go.Lib.pow10Tab := by
  obtain ⟨m, hm⟩ := h.maxLen
  exact h.pow (by rw [hm]; simp)

abbrev str (s : Bytes) : Value := .string ⟨s.toArray⟩
def i64ok (n : Int) : Prop := -9223372036854775808 ≤ n ∧ n ≤ 9223372036854775807

theorem below_growS (w : World) (os : Array Obj) : Below w.heap.size w (Go.Sort.grow w os) := ⟨rfl, rfl, rfl, by simp, fun k hk => Go.Sort.heap_grow_old w os hk⟩
theorem itoa_any (n : Int) (hn : i64ok n) (w : World) (hg : Gl w) : Calls Tryz.prog 48 #[.int .i64 n] w fun e w' => e = .returned (str (Go.Lib.itoa n)) ∧ Below w.heap.size w w' :=
  (Tryz.strconv_Itoa n hn.1 hn.2 w hg.tab).mono fun _ _ ⟨h1, k, os, h2⟩ => ⟨h1, by rw [h2]; exact (below_drewN (Below.refl _ _) k).trans (below_growS (w.drewN k) os)⟩

theorem bytesWorld_below (w : World) (T : TypeId) (t : ByteArray) : Below w.heap.size w (Go.Lib.bytesWorld w T t) := by
  unfold Go.Lib.bytesWorld
  exact Go.Lib.below_freeze ((Below.drew (Below.refl _ _)).alloc (Nat.le_refl _) _) (Nat.le_refl _) _
theorem atoi_any (s : Bytes) (hs : s.length ≤ 281474976710656) (w : World) (hg : Gl w) : Calls Tryz.prog 78 #[str s] w fun e w' =>
    ((∃ v, Go.Lib.atoiAll s = .ok v ∧ e = .returned (.tuple #[.int .i64 v, .nilIface])) ∨ (∃ z x, (∀ v, Go.Lib.atoiAll s ≠ .ok v) ∧ e = .returned (.tuple #[.int .i64 z, .iface 174 x]))) ∧ Below w.heap.size w w' := by
  have hsz : (⟨s.toArray⟩ : ByteArray).size = s.length := by simp [ByteArray.size]
  have hl : (⟨s.toArray⟩ : ByteArray).data.toList = s := by simp
  cases h : Go.Lib.atoiAll s with
  | ok v =>
    refine (Tryz.strconv_Atoi_ok ⟨s.toArray⟩ (by rw [hsz]; omega) v (by rw [hl]; exact h) w).mono ?_
    rintro e w' ⟨rfl, hw⟩
    refine ⟨.inl ⟨v, rfl, rfl⟩, ?_⟩
    rcases hw with rfl | ⟨t, rfl⟩
    · exact Below.refl _ _
    · exact bytesWorld_below w _ t
  | range =>
    obtain ⟨ev, hv, hev⟩ := hg.ranE
    refine (Tryz.strconv_Atoi_range ⟨s.toArray⟩ (by rw [hsz]; exact hs) (by rw [hl]; exact h) ev w hv hev).mono ?_
    rintro e w' ⟨N, rfl, _, _, hb⟩
    exact ⟨.inr ⟨_, _, fun v => (by simp), rfl⟩, hb⟩
  | _ =>
    obtain ⟨ev, hv, hev⟩ := hg.synE
    refine (Tryz.strconv_Atoi_bad ⟨s.toArray⟩ (by rw [hsz]; exact hs) (by rw [hl, h]; exact ⟨fun v h2 => (by cases h2), fun h2 => (by cases h2)⟩) ev w hv hev).mono ?_
    rintro e w' ⟨N, rfl, _, _, hb⟩
    exact ⟨.inr ⟨_, _, fun v => (by simp), rfl⟩, hb⟩

abbrev panics (c : Int) : Ending := .panicked [{ v := .iface 36 (.int .i64 c), recovered := false }]
theorem body_panics {P : Program} {fn : Func} {R : Ending → World → Prop} {chain : List PanicEntry} {ts : Array Value} {w : World} (h : R (.panicked chain) w) : bodyPost P fn R (.panic chain) { tmps := ts, defers := [] } w := by
  simpa [bodyPost] using h
def Gives (e : Ending) : Except Int Value → Prop
  | .ok v => e = .returned v
  | .error c => e = panics c
theorem Gives.ok {e : Ending} {x : Except Int Value} {v : Value} (h : Gives e x) (hx : x = .ok v) : e = .returned v := by subst hx; exact h
theorem Gives.err {e : Ending} {x : Except Int Value} {c : Int} (h : Gives e x) (hx : x = .error c) : e = panics c := by subst hx; exact h
def numX (s : Bytes) : Except Int Value := match wordV s with | some v => .ok (.int .i64 v) | none => .error 7
theorem wordV_some {s : Bytes} {v : Int} : wordV s = some v ↔ Go.Lib.atoiAll s = .ok v ∧ Go.Lib.itoa v = s ∧ near v := by
  unfold wordV numV near
  cases h : Go.Lib.atoiAll s with
  | ok u =>
    by_cases hi : Go.Lib.itoa u = s
    · simp only [hi, if_true]
      split
      · rename_i hr
        simp only [reduceCtorEq, false_iff, not_and]
        rintro h1 _
        cases h1
        omega
      · rename_i hr
        simp only [Option.some.injEq]
        constructor
        · rintro rfl; exact ⟨rfl, hi, by omega⟩
        · rintro ⟨h1, _⟩; cases h1; rfl
    · simp only [hi, if_false, reduceCtorEq, false_iff, not_and]
      rintro h1 h2
      cases h1
      exact absurd h2 hi
  | range => simp
  | _ => simp
theorem wordV_near {s : Bytes} {v : Int} (h : wordV s = some v) : near v := (wordV_some.1 h).2.2

set_option maxHeartbeats 1000000 in
theorem number_any (s : Bytes) (hs : s.length ≤ 281474976710656) (w : World) (hg : Gl w) : Calls Tryz.prog 43 #[str s] w fun e w' => Gives e (numX s) ∧ Below w.heap.size w w' := by
  have HA := Lib.hid (atoi_any s hs w hg)
  have HG := Lib.hid hg
  clear hg
  go_enter Tryz.func43, Tryz.ntmps43
  go_wp2_with fail
  refine HA.out.mono ?_
  clear HA
  rintro e w1 ⟨⟨v, hv, rfl⟩ | ⟨z, x, hno, rfl⟩, hb1⟩
  rotate_left
  · have HP := Lib.hid (show numX s = .error 7 by
      unfold numX
      cases h : wordV s with
      | none => rfl
      | some v => exact absurd (wordV_some.1 h).1 (hno v))
    clear hno
    go_wp2_with fail
    refine body_panics ⟨?_, hb1⟩
    rw [HP.out]; rfl
  · have HV := Lib.hid hv
    have HB1 := Lib.hid hb1
    clear hv hb1
    by_cases h1 : v < -1073741824
    · have HP := Lib.hid (show numX s = .error 7 by
        unfold numX
        cases h : wordV s with
        | none => rfl
        | some u =>
          obtain ⟨h2, _, h3⟩ := wordV_some.1 h
          rw [HV.out] at h2
          cases h2
          unfold near at h3; omega)
      have d1 : decide (v < -1073741824) = true := decide_eq_true h1
      go_wp2_with fail
      refine body_panics ⟨?_, HB1.out⟩
      rw [HP.out]; rfl
    · have d1 : decide (v < -1073741824) = false := decide_eq_false h1
      by_cases h2 : 1073741824 < v
      · have HP := Lib.hid (show numX s = .error 7 by
          unfold numX
          cases h : wordV s with
          | none => rfl
          | some u =>
            obtain ⟨h2, _, h3⟩ := wordV_some.1 h
            rw [HV.out] at h2
            cases h2
            unfold near at h3; omega)
        have d2 : decide (1073741824 < v) = true := decide_eq_true h2
        go_wp2_with fail
        refine body_panics ⟨?_, HB1.out⟩
        rw [HP.out]; rfl
      · have d2 : decide (1073741824 < v) = false := decide_eq_false h2
        have HI := Lib.hid (itoa_any v ⟨by omega, by omega⟩ w1 (HG.out.on HB1.out))
        go_wp2_with fail
        refine HI.out.mono ?_
        rintro e w2 ⟨rfl, hb2⟩
        have HB2 := Lib.hid (HB1.out.trans (hb2.mono HB1.out.size))
        clear hb2 HI
        by_cases hi : Go.Lib.itoa v = s
        · have hb : (Go.Lib.itoa v == s) = true := by rw [beq_iff_eq]; exact hi
          have HP := Lib.hid (show numX s = .ok (.int .i64 v) by unfold numX; rw [wordV_some.2 ⟨HV.out, hi, by omega, by omega⟩])
          clear hi
          go_wp2_with fail
          go_ret
          rw [HP.out]
          exact ⟨rfl, HB2.out⟩
        · have hb : (Go.Lib.itoa v == s) = false := by rw [beq_eq_false_iff_ne]; exact hi
          have HP := Lib.hid (show numX s = .error 7 by
            unfold numX
            cases h : wordV s with
            | none => rfl
            | some u =>
              obtain ⟨h2, h3, _⟩ := wordV_some.1 h
              rw [HV.out] at h2
              cases h2
              exact absurd h3 hi)
          clear hi
          go_wp2_with fail
          refine body_panics ⟨?_, HB2.out⟩
          rw [HP.out]; rfl
end Go.Proofs.YtalbllijahiiiaaGreatDoor
end

section
namespace Go.Proofs.YtalbllijahiiiaaGreatDoor
open Go.RowKit Go.Mine Go.Mine.Desk

abbrev intG (a b : Int) : Value := .agg #[.int .i64 2, .int .i64 a, .int .i64 b, .slice none 0 0]
abbrev manyG (n : Int) (gb : Nat) : Value := .agg #[.int .i64 4, .int .i64 n, .int .i64 0, .slice (some ⟨gb, 0, none⟩) 1 1]
def SubAt (w : World) (gb : Nat) (a b : Int) : Prop := w.heap[gb]? = some (.cells #[.int .i64 2, .int .i64 a, .int .i64 b, .slice none 0 0] 28 (0, 0))
theorem SubAt.lt {w : World} {gb : Nat} {a b : Int} (h : SubAt w gb a b) : gb < w.heap.size := (Array.getElem?_eq_some_iff.1 h).1
theorem SubAt.on {w w' : World} {gb : Nat} {a b : Int} (h : SubAt w gb a b) (hb : Below w.heap.size w w') : SubAt w' gb a b := (hb.block gb h.lt).trans h
theorem SubAt.c0 {w : World} {gb : Nat} {a b : Int} (h : SubAt w gb a b) : w.cell? ⟨gb, 0, none⟩ = some (.int .i64 2) := by rw [cell_of_row w _ 0 _ _ _ h]; rfl
theorem SubAt.c1 {w : World} {gb : Nat} {a b : Int} (h : SubAt w gb a b) : w.cell? ⟨gb, 1, none⟩ = some (.int .i64 a) := by rw [cell_of_row w _ 1 _ _ _ h]; rfl
theorem SubAt.c2 {w : World} {gb : Nat} {a b : Int} (h : SubAt w gb a b) : w.cell? ⟨gb, 2, none⟩ = some (.int .i64 b) := by rw [cell_of_row w _ 2 _ _ _ h]; rfl
theorem SubAt.c3 {w : World} {gb : Nat} {a b : Int} (h : SubAt w gb a b) : w.cell? ⟨gb, 3, none⟩ = some (.slice none 0 0) := by rw [cell_of_row w _ 3 _ _ _ h]; rfl
def RowAt (w : World) (bk : Nat) (cs : Array Value) : Prop := w.heap[bk]? = some (.cells cs 28 (0, 0))
theorem RowAt.on {w w' : World} {bk : Nat} {cs : Array Value} (h : RowAt w bk cs) (hb : Below w.heap.size w w') : RowAt w' bk cs := (hb.block bk (Array.getElem?_eq_some_iff.1 h).1).trans h
theorem RowAt.cell {w : World} {bk : Nat} {cs : Array Value} (h : RowAt w bk cs) (i : Nat) : w.cell? ⟨bk, i, none⟩ = cs[i]? := cell_of_row w _ i _ _ _ h
def GenAt (w : World) (v : Value) : G → Prop
  | .int a b => v = intG a b
  | .many n a b => ∃ gb, v = manyG n gb ∧ SubAt w gb a b
theorem GenAt.on {w w' : World} {v : Value} : ∀ {g : G}, GenAt w v g → Below w.heap.size w w' → GenAt w' v g
  | .int _ _, h, _ => h
  | .many _ _ _, ⟨gb, h1, h2⟩, hb => ⟨gb, h1, h2.on hb⟩

/-! gen.parts -/
theorem parts_int (a b d : Int) (hd : 0 ≤ d ∧ d < 6) (w : World) : Calls Tryz.prog 108 #[intG a b, .int .i64 d] w fun e w' => e = .returned (.tuple #[.int .i64 1, .bool true]) ∧ Below w.heap.size w w' := by
  have h1 : decide (d < 6) = true := decide_eq_true hd.2
  have h2 := hd.1
  have h3 := hd.2
  have HB := Lib.hid ((Below.refl w.heap.size w).alloc (Nat.le_refl _) (.cells #[.int .i64 2, .int .i64 a, .int .i64 b, .slice none 0 0] 28))
  go_enter Tryz.func108, Tryz.ntmps108
  go_wp2_with fail
  refine wp_loop_rounds 1 ?_
  rw [rounds_succ]
  go_wp2_with fail
  go_ret2
  exact ⟨rfl, HB.out⟩
set_option maxHeartbeats 1000000 in
theorem parts_many (n a b : Int) (gb : Nat) (w : World) (hs : SubAt w gb a b) : Calls Tryz.prog 108 #[manyG n gb, .int .i64 0] w fun e w' => e = .returned (.tuple #[.int .i64 2, .bool true]) ∧ Below w.heap.size w w' := by
  obtain ⟨w1, hw1⟩ : ∃ w1, w1 = w.alloc (.cells #[.int .i64 4, .int .i64 n, .int .i64 0, .slice (some ⟨gb, 0, none⟩) 1 1] 28) := ⟨_, rfl⟩
  have hb1 : Below w.heap.size w w1 := by rw [hw1]; exact (Below.refl _ _).alloc (Nat.le_refl _) _
  have hs1 := hs.on hb1
  obtain ⟨w2, hw2⟩ : ∃ w2, w2 = w1.alloc (.cells #[.int .i64 2, .int .i64 a, .int .i64 b, .slice none 0 0] 28) := ⟨_, rfl⟩
  have hb2 : Below w.heap.size w w2 := by rw [hw2]; exact hb1.alloc hb1.size _
  have HC := Lib.hid (parts_int a b 1 (by omega) w2)
  have c0 := hs1.c0
  have c1 := hs1.c1
  have c2 := hs1.c2
  have c3 := hs1.c3
  have HB2 := Lib.hid hb2
  rw [hw2, hw1] at HC
  rw [hw1] at c0 c1 c2 c3
  have HW := Lib.hid (And.intro hw1 hw2)
  clear hs hs1 hb1 hb2 hw1 hw2
  go_enter Tryz.func108, Tryz.ntmps108
  go_wp2_with fail
  refine wp_loop_rounds 2 ?_
  rw [rounds_succ]
  go_wp2_with fail
  refine HC.out.mono ?_
  clear HC
  rintro e w3 ⟨rfl, hb3⟩
  have HB3 := Lib.hid (HB2.out.trans (by rw [HW.out.2, HW.out.1]; exact hb3.mono (by simp; omega)))
  clear hb3
  go_wp2_with fail
  rw [rounds_succ]
  go_wp2_with fail
  go_ret2
  exact ⟨rfl, HB3.out⟩

/-! gen.number, one, each, Check -/
theorem gnumber_any (x : Int) (hx : near x) (w : World) : Calls Tryz.prog 154 #[.int .i64 x] w fun e w' => e = .returned (.bool true) ∧ w' = w := by
  unfold near at hx
  have h1 : decide (-1073741824 ≤ x) = true := decide_eq_true hx.1
  have h2 : decide (x ≤ 1073741824) = true := decide_eq_true hx.2
  have h3 := hx.1
  have h4 := hx.2
  clear hx
  go_enter Tryz.func154, Tryz.ntmps154
  go_wp2_with fail
  go_ret
  exact ⟨by simp, rfl⟩
def faultI (a b : Int) : Int := if a ≤ b ∧ b - a ≤ 1000 then 0 else 1
def faultG : G → Int
  | .int a b => faultI a b
  | .many n a b => if 0 ≤ n ∧ n ≤ 5 then faultI a b else 1
def errV (c : Int) : Value := if c = 0 then .nilIface else .iface 36 (.int .i64 c)

set_option maxHeartbeats 2000000 in
theorem one_int (a b : Int) (ha : near a) (hb : near b) (w : World) : Calls Tryz.prog 134 #[intG a b] w fun e w' => e = .returned (errV (faultI a b)) ∧ Below w.heap.size w w' := by
  have HB := Lib.hid ((Below.refl w.heap.size w).alloc (Nat.le_refl _) (.cells #[.int .i64 2, .int .i64 a, .int .i64 b, .slice none 0 0] 28))
  have HA1 := Lib.hid (fun w => gnumber_any a ha w)
  have HB1 := Lib.hid (fun w => gnumber_any b hb w)
  have hr1 : -2147483648 ≤ b - a ∧ b - a ≤ 2147483648 := by unfold near at ha hb; omega
  have hr2 := hr1.1
  have hr3 := hr1.2
  clear ha hb hr1
  by_cases h1 : b < a
  · have d1 : decide (b < a) = true := decide_eq_true h1
    have HF := Lib.hid (show faultI a b = 1 by unfold faultI; rw [if_neg (by omega)])
    go_enter Tryz.func134, Tryz.ntmps134
    go_wp2_with fail
    refine (HA1.out _).mono ?_
    rintro e w1 ⟨rfl, rfl⟩
    go_wp2_with fail
    refine (HB1.out _).mono ?_
    rintro e w1 ⟨rfl, rfl⟩
    go_wp2_with fail
    go_ret
    rw [HF.out]
    exact ⟨rfl, HB.out⟩
  · have d1 : decide (b < a) = false := decide_eq_false h1
    by_cases h2 : 1000 < b - a
    · have d2 : decide (1000 < b - a) = true := decide_eq_true h2
      have HF := Lib.hid (show faultI a b = 1 by unfold faultI; rw [if_neg (by omega)])
      go_enter Tryz.func134, Tryz.ntmps134
      go_wp2_with fail
      refine (HA1.out _).mono ?_
      rintro e w1 ⟨rfl, rfl⟩
      go_wp2_with fail
      refine (HB1.out _).mono ?_
      rintro e w1 ⟨rfl, rfl⟩
      go_wp2_with fail
      go_ret
      rw [HF.out]
      exact ⟨rfl, HB.out⟩
    · have d2 : decide (1000 < b - a) = false := decide_eq_false h2
      have HF := Lib.hid (show faultI a b = 0 by unfold faultI; rw [if_pos (by omega)])
      go_enter Tryz.func134, Tryz.ntmps134
      go_wp2_with fail
      refine (HA1.out _).mono ?_
      rintro e w1 ⟨rfl, rfl⟩
      go_wp2_with fail
      refine (HB1.out _).mono ?_
      rintro e w1 ⟨rfl, rfl⟩
      go_wp2_with fail
      go_ret
      rw [HF.out]
      exact ⟨rfl, HB.out⟩
set_option maxHeartbeats 1000000 in
theorem one_many (n : Int) (gb : Nat) (w : World) : Calls Tryz.prog 134 #[manyG n gb] w fun e w' => e = .returned (errV (if 0 ≤ n ∧ n ≤ 5 then 0 else 1)) ∧ Below w.heap.size w w' := by
  have HB := Lib.hid ((Below.refl w.heap.size w).alloc (Nat.le_refl _) (.cells #[.int .i64 4, .int .i64 n, .int .i64 0, .slice (some ⟨gb, 0, none⟩) 1 1] 28))
  by_cases h1 : n < 0
  · have d1 : decide (n < 0) = true := decide_eq_true h1
    rw [show (if 0 ≤ n ∧ n ≤ 5 then (0 : Int) else 1) = 1 from if_neg (by omega)]
    go_enter Tryz.func134, Tryz.ntmps134
    go_wp2_with fail
    go_ret
    exact ⟨rfl, HB.out⟩
  · have d1 : decide (n < 0) = false := decide_eq_false h1
    by_cases h2 : 5 < n
    · have d2 : decide (5 < n) = true := decide_eq_true h2
      rw [show (if 0 ≤ n ∧ n ≤ 5 then (0 : Int) else 1) = 1 from if_neg (by omega)]
      go_enter Tryz.func134, Tryz.ntmps134
      go_wp2_with fail
      go_ret
      exact ⟨rfl, HB.out⟩
    · have d2 : decide (5 < n) = false := decide_eq_false h2
      rw [show (if 0 ≤ n ∧ n ≤ 5 then (0 : Int) else 1) = 0 from if_pos (by omega)]
      go_enter Tryz.func134, Tryz.ntmps134
      go_wp2_with fail
      go_ret
      exact ⟨rfl, HB.out⟩
theorem errV_zero : errV 0 = .nilIface := by unfold errV; rw [if_pos rfl]
theorem errV_ne {c : Int} (h : c ≠ 0) : errV c = .iface 36 (.int .i64 c) := by unfold errV; rw [if_neg h]
theorem faultI_cases (a b : Int) : faultI a b = 0 ∨ faultI a b = 1 := by unfold faultI; split <;> simp
theorem faultG_cases (g : G) : faultG g = 0 ∨ faultG g = 1 := by
  cases g with
  | int a b => exact faultI_cases a b
  | many n a b =>
    show (if 0 ≤ n ∧ n ≤ 5 then faultI a b else 1) = 0 ∨ (if 0 ≤ n ∧ n ≤ 5 then faultI a b else 1) = 1
    split
    · exact faultI_cases a b
    · exact .inr rfl
theorem each_int (a b : Int) (ha : near a) (hb : near b) (w : World) : Calls Tryz.prog 109 #[intG a b] w fun e w' => e = .returned (errV (faultI a b)) ∧ Below w.heap.size w w' := by
  obtain ⟨w1, hw1⟩ : ∃ w1, w1 = w.alloc (.cells #[.int .i64 2, .int .i64 a, .int .i64 b, .slice none 0 0] 28) := ⟨_, rfl⟩
  have hb1 : Below w.heap.size w w1 := by rw [hw1]; exact (Below.refl _ _).alloc (Nat.le_refl _) _
  have hr1 : RowAt w1 w.heap.size #[.int .i64 2, .int .i64 a, .int .i64 b, .slice none 0 0] := by rw [hw1]; exact heap_alloc_new _ _
  have HC := Lib.hid (one_int a b ha hb w1)
  have HR := Lib.hid (And.intro hb1 hr1)
  rw [hw1] at HC
  have HW := Lib.hid hw1
  rcases faultI_cases a b with hf | hf
  · rw [hf, errV_zero] at HC ⊢
    clear hb1 hr1 hw1 ha hb hf
    go_enter Tryz.func109, Tryz.ntmps109
    go_wp2_with fail
    refine HC.out.mono ?_
    clear HC
    rintro e w2 ⟨rfl, hb2⟩
    rw [← HW.out] at hb2
    have hr2 := HR.out.2.on hb2
    have c3 := hr2.cell 3
    have HB2 := Lib.hid (HR.out.1.trans (hb2.mono HR.out.1.size))
    clear hb2 hr2
    go_wp2_with fail
    refine wp_loop_rounds 1 ?_
    rw [rounds_succ]
    go_wp2_with fail
    go_ret
    exact ⟨rfl, HB2.out⟩
  · rw [hf, errV_ne (by decide)] at HC ⊢
    clear hb1 hr1 hw1 ha hb hf
    go_enter Tryz.func109, Tryz.ntmps109
    go_wp2_with fail
    refine HC.out.mono ?_
    clear HC
    rintro e w2 ⟨rfl, hb2⟩
    rw [← HW.out] at hb2
    have HB2 := Lib.hid (HR.out.1.trans (hb2.mono HR.out.1.size))
    clear hb2
    go_wp2_with fail
    go_ret
    exact ⟨rfl, HB2.out⟩
set_option maxHeartbeats 1000000 in
theorem each_many (n a b : Int) (gb : Nat) (ha : near a) (hb : near b) (w : World) (hs : SubAt w gb a b) : Calls Tryz.prog 109 #[manyG n gb] w fun e w' => e = .returned (errV (faultG (.many n a b))) ∧ Below w.heap.size w w' := by
  obtain ⟨w1, hw1⟩ : ∃ w1, w1 = w.alloc (.cells #[.int .i64 4, .int .i64 n, .int .i64 0, .slice (some ⟨gb, 0, none⟩) 1 1] 28) := ⟨_, rfl⟩
  have hb1 : Below w.heap.size w w1 := by rw [hw1]; exact (Below.refl _ _).alloc (Nat.le_refl _) _
  have hr1 : RowAt w1 w.heap.size #[.int .i64 4, .int .i64 n, .int .i64 0, .slice (some ⟨gb, 0, none⟩) 1 1] := by rw [hw1]; exact heap_alloc_new _ _
  have HC := Lib.hid (one_many n gb w1)
  have HR := Lib.hid (And.intro hb1 (And.intro hr1 (hs.on hb1)))
  rw [hw1] at HC
  have HW := Lib.hid hw1
  have HE := Lib.hid (fun w => each_int a b ha hb w)
  by_cases hn : 0 ≤ n ∧ n ≤ 5
  · rw [if_pos hn, errV_zero] at HC
    rw [show faultG (.many n a b) = faultI a b from if_pos hn]
    obtain ⟨f, hf⟩ : ∃ f, f = faultI a b := ⟨_, rfl⟩
    have hfc := faultI_cases a b
    rw [← hf] at HE hfc ⊢
    clear hb1 hr1 hw1 ha hb hf hs
    go_enter Tryz.func109, Tryz.ntmps109
    go_wp2_with fail
    refine HC.out.mono ?_
    clear HC
    rintro e w2 ⟨rfl, hb2⟩
    rw [← HW.out] at hb2
    have hr2 := HR.out.2.1.on hb2
    have hs2 := HR.out.2.2.on hb2
    have c3 := hr2.cell 3
    have s0 := hs2.c0
    have s1 := hs2.c1
    have s2 := hs2.c2
    have s3 := hs2.c3
    have hb2' := HR.out.1.trans (hb2.mono HR.out.1.size)
    have HB2 := Lib.hid (hb2'.alloc hb2'.size (.cells #[.int .i64 2, .int .i64 a, .int .i64 b, .slice none 0 0] 28))
    clear hb2 hr2 hs2 hb2'
    go_wp2_with fail
    refine wp_loop_rounds 2 ?_
    rw [rounds_succ]
    go_wp2_with fail
    refine (HE.out _).mono ?_
    clear HE
    rintro e w3 ⟨rfl, hb3⟩
    have HB3 := Lib.hid (HB2.out.trans (hb3.mono HB2.out.size))
    clear hb3
    rcases hfc with rfl | rfl
    · rw [errV_zero]
      go_wp2_with fail
      rw [rounds_succ]
      go_wp2_with fail
      go_ret
      exact ⟨rfl, HB3.out⟩
    · rw [errV_ne (by decide)]
      go_wp2_with fail
      go_ret
      exact ⟨rfl, HB3.out⟩
  · rw [if_neg hn, errV_ne (by decide)] at HC
    rw [show faultG (.many n a b) = 1 from if_neg hn, errV_ne (by decide)]
    clear hb1 hr1 hw1 ha hb hs hn
    go_enter Tryz.func109, Tryz.ntmps109
    go_wp2_with fail
    refine HC.out.mono ?_
    clear HC
    rintro e w2 ⟨rfl, hb2⟩
    rw [← HW.out] at hb2
    have HB2 := Lib.hid (HR.out.1.trans (hb2.mono HR.out.1.size))
    clear hb2
    go_wp2_with fail
    go_ret
    exact ⟨rfl, HB2.out⟩

set_option maxHeartbeats 1000000 in
theorem check_any (g : G) (v : Value) (hn : g.near) (w : World) (hv : GenAt w v g) : Calls Tryz.prog 79 #[v] w fun e w' => e = .returned (errV (faultG g)) ∧ Below w.heap.size w w' := by
  cases g with
  | int a b =>
    obtain rfl : v = intG a b := hv
    obtain ⟨w1, hw1⟩ : ∃ w1, w1 = w.alloc (.cells #[.int .i64 2, .int .i64 a, .int .i64 b, .slice none 0 0] 28) := ⟨_, rfl⟩
    have hb1 : Below w.heap.size w w1 := by rw [hw1]; exact (Below.refl _ _).alloc (Nat.le_refl _) _
    have hr1 : RowAt w1 w.heap.size #[.int .i64 2, .int .i64 a, .int .i64 b, .slice none 0 0] := by rw [hw1]; exact heap_alloc_new _ _
    have HC := Lib.hid (parts_int a b 0 (by omega) w1)
    have HE := Lib.hid (fun w => each_int a b hn.1 hn.2 w)
    have HR := Lib.hid (And.intro hb1 hr1)
    rw [hw1] at HC
    have HW := Lib.hid hw1
    rw [show faultG (.int a b) = faultI a b from rfl]
    clear hb1 hr1 hw1 hn
    go_enter Tryz.func79, Tryz.ntmps79
    go_wp2_with fail
    refine HC.out.mono ?_
    clear HC
    rintro e w2 ⟨rfl, hb2⟩
    rw [← HW.out] at hb2
    have hr2 := HR.out.2.on hb2
    have s0 := hr2.cell 0
    have s1 := hr2.cell 1
    have s2 := hr2.cell 2
    have s3 := hr2.cell 3
    have HB2 := Lib.hid (HR.out.1.trans (hb2.mono HR.out.1.size))
    clear hb2 hr2
    go_wp2_with fail
    refine (HE.out _).mono ?_
    clear HE
    rintro e w3 ⟨rfl, hb3⟩
    have HB3 := Lib.hid (HB2.out.trans (hb3.mono HB2.out.size))
    clear hb3
    go_wp2_with fail
    go_ret
    exact ⟨rfl, HB3.out⟩
  | many n a b =>
    obtain ⟨gb, rfl, hs⟩ := hv
    obtain ⟨w1, hw1⟩ : ∃ w1, w1 = w.alloc (.cells #[.int .i64 4, .int .i64 n, .int .i64 0, .slice (some ⟨gb, 0, none⟩) 1 1] 28) := ⟨_, rfl⟩
    have hb1 : Below w.heap.size w w1 := by rw [hw1]; exact (Below.refl _ _).alloc (Nat.le_refl _) _
    have hr1 : RowAt w1 w.heap.size #[.int .i64 4, .int .i64 n, .int .i64 0, .slice (some ⟨gb, 0, none⟩) 1 1] := by rw [hw1]; exact heap_alloc_new _ _
    have hs1 := hs.on hb1
    have HC := Lib.hid (parts_many n a b gb w1 hs1)
    have HE := Lib.hid (fun w h => each_many n a b gb hn.2.1 hn.2.2 w h)
    have HR := Lib.hid (And.intro hb1 (And.intro hr1 hs1))
    rw [hw1] at HC
    have HW := Lib.hid hw1
    obtain ⟨f, hf⟩ : ∃ f, f = faultG (.many n a b) := ⟨_, rfl⟩
    rw [← hf] at HE ⊢
    clear hb1 hr1 hw1 hn hs hs1 hf
    go_enter Tryz.func79, Tryz.ntmps79
    go_wp2_with fail
    refine HC.out.mono ?_
    clear HC
    rintro e w2 ⟨rfl, hb2⟩
    rw [← HW.out] at hb2
    have hr2 := HR.out.2.1.on hb2
    have HS2 := Lib.hid (HR.out.2.2.on hb2)
    have s0 := hr2.cell 0
    have s1 := hr2.cell 1
    have s2 := hr2.cell 2
    have s3 := hr2.cell 3
    have HB2 := Lib.hid (HR.out.1.trans (hb2.mono HR.out.1.size))
    clear hb2 hr2
    go_wp2_with fail
    refine (HE.out _ HS2.out).mono ?_
    clear HE
    rintro e w3 ⟨rfl, hb3⟩
    have HB3 := Lib.hid (HB2.out.trans (hb3.mono HB2.out.size))
    clear hb3
    go_wp2_with fail
    go_ret
    exact ⟨rfl, HB3.out⟩
end Go.Proofs.YtalbllijahiiiaaGreatDoor
end
