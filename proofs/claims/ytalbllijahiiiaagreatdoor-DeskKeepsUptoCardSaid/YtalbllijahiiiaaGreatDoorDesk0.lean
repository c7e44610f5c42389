/- strconv.Itoa, Atoi as they are met; desk.number. CONDITION: the package-level variables hold what start-up lays there (Gl). -/
import Derived.Test.YtalbllijahiiiaaGreatDoorShelf
import Derived.Test.YtalbllijahiiiaaGreatDoorLib
import Derived.Test.YtalbllijahiiiaaGreatDoorDeskP
import Derived.Below
import Derived.Recover
import Derived.Defers
import Derived.Lib.UnsafeStr
import Derived.Deep.QuietTactic
import Derived.BigQuiet
namespace Go.Proofs.YtalbllijahiiiaaGreatDoor
open Go.RowKit Go.Mine Go.Mine.Desk

/-- How many values each kind of an expression has. -/
def takesL : List Int := [-1, 0, 0, 0, 0, 2, 2, 2, 2, 1, 2, 2]
/-- The package-level variables. -/
structure Gl (w : World) : Prop where
  size : 9 ≤ w.heap.size
  maxLen : ∃ m, w.cell? ⟨0, 0, none⟩ = some (.int .i64 m)
  synE : ∃ ev, w.cell? ⟨3, 0, none⟩ = some ev ∧ (ev = .nilIface ∨ ∃ te pe, ev = .iface te pe)
  ranE : ∃ ev, w.cell? ⟨4, 0, none⟩ = some ev ∧ (ev = .nilIface ∨ ∃ te pe, ev = .iface te pe)
  pow : w.cell? ⟨0, 0, none⟩ ≠ none → Go.Lib.TabIs Tryz.prog w "internal/strconv.uint64pow10" .u64 Go.Lib.pow10Tab
  takes : ∀ k, k < 12 → w.cell? ⟨6, k, none⟩ = some (.int .i64 (takesL.getD k 0))
theorem tab_below {P : Program} {w w' : World} {name : String} {k : IntKind} {zs : List Int} {B : Nat} (h : Go.Lib.TabIs P w name k zs) (hb : Below B w w') (hB : ∀ g, P.globalNamed name = some g → g < B) : Go.Lib.TabIs P w' name k zs := by
  unfold Go.Lib.TabIs World.var? at *
  cases hg : P.globalNamed name with
  | none => simp [hg] at h
  | some g =>
    simp only [hg, Option.bind_some] at h ⊢
    rw [hb.block g (hB g hg)]
    exact h
theorem pow_at : Tryz.prog.globalNamed "internal/strconv.uint64pow10" = some 5 := by kernel_rfl
theorem Gl.below {w w' : World} (h : Gl w) {B : Nat} (hB : 9 ≤ B) (hb : Below B w w') : Gl w' where
  size := Nat.le_trans h.size hb.size
  maxLen := by obtain ⟨m, hm⟩ := h.maxLen; exact ⟨m, (hb.cell (by simp; omega)).trans hm⟩
  synE := by obtain ⟨m, hm, h2⟩ := h.synE; exact ⟨m, (hb.cell (by simp; omega)).trans hm, h2⟩
  ranE := by obtain ⟨m, hm, h2⟩ := h.ranE; exact ⟨m, (hb.cell (by simp; omega)).trans hm, h2⟩
  pow := fun _ => by
    obtain ⟨m, hm⟩ := h.maxLen
    exact tab_below (h.pow (by rw [hm]; simp)) hb (fun g hg => by rw [pow_at] at hg; cases hg; omega)
  takes := fun k hk => (hb.cell (by simp; omega)).trans (h.takes k hk)
theorem Gl.on {w w' : World} (h : Gl w) (hb : Below w.heap.size w w') : Gl w' := h.below h.size hb
theorem Gl.tab {w : World} (h : Gl w) : Go.Lib.TabIs Tryz.prog w "internal/strconv.uint64pow10" .u64 Go.Lib.pow10Tab := by
  obtain ⟨m, hm⟩ := h.maxLen
  exact h.pow (by rw [hm]; simp)

/-- A text. -/
abbrev str (s : Bytes) : Value := .string ⟨s.toArray⟩
def i64ok (n : Int) : Prop := -9223372036854775808 ≤ n ∧ n ≤ 9223372036854775807

theorem below_growS (w : World) (os : Array Obj) : Below w.heap.size w (Go.Sort.grow w os) := ⟨rfl, rfl, rfl, by simp, fun k hk => Go.Sort.heap_grow_old w os hk⟩
theorem itoa_any (n : Int) (hn : i64ok n) (w : World) (hg : Gl w) : Calls Tryz.prog 48 #[.int .i64 n] w fun e w' => e = .returned (str (Go.Lib.itoa n)) ∧ Below w.heap.size w w' :=
  (Tryz.strconv_Itoa n hn.1 hn.2 w hg.tab).mono fun _ _ ⟨h1, k, os, h2⟩ => ⟨h1, by rw [h2]; exact (below_drewN (Below.refl _ _) k).trans (below_growS (w.drewN k) os)⟩

theorem bytesWorld_below (w : World) (T : TypeId) (t : ByteArray) : Below w.heap.size w (Go.Lib.bytesWorld w T t) := by
  unfold Go.Lib.bytesWorld
  exact Go.Lib.below_freeze ((Below.drew (Below.refl _ _)).alloc (Nat.le_refl _) _) (Nat.le_refl _) _
theorem atoi_any (s : Bytes) (hs : s.length ≤ 281474976710656) (w : World) (hg : Gl w) : Calls Tryz.prog 78 #[str s] w fun e w' =>
    ((∃ v, Go.Lib.atoiAll s = .ok v ∧ e = .returned (.tuple #[.int .i64 v, .nilIface])) ∨ (∃ z x, (∀ v, Go.Lib.atoiAll s ≠ .ok v) ∧ e = .returned (.tuple #[.int .i64 z, .iface 174 x]))) ∧ Below w.heap.size w w' := by
  have hsz : (⟨s.toArray⟩ : ByteArray).size = s.length := by simp [ByteArray.size]
  have hl : (⟨s.toArray⟩ : ByteArray).data.toList = s := by simp
  cases h : Go.Lib.atoiAll s with
  | ok v =>
    refine (Tryz.strconv_Atoi_ok ⟨s.toArray⟩ (by rw [hsz]; omega) v (by rw [hl]; exact h) w).mono ?_
    rintro e w' ⟨rfl, hw⟩
    refine ⟨.inl ⟨v, rfl, rfl⟩, ?_⟩
    rcases hw with rfl | ⟨t, rfl⟩
    · exact Below.refl _ _
    · exact bytesWorld_below w _ t
  | range =>
    obtain ⟨ev, hv, hev⟩ := hg.ranE
    refine (Tryz.strconv_Atoi_range ⟨s.toArray⟩ (by rw [hsz]; exact hs) (by rw [hl]; exact h) ev w hv hev).mono ?_
    rintro e w' ⟨N, rfl, _, _, hb⟩
    exact ⟨.inr ⟨_, _, fun v => (by simp), rfl⟩, hb⟩
  | _ =>
    obtain ⟨ev, hv, hev⟩ := hg.synE
    refine (Tryz.strconv_Atoi_bad ⟨s.toArray⟩ (by rw [hsz]; exact hs) (by rw [hl, h]; exact ⟨fun v h2 => (by cases h2), fun h2 => (by cases h2)⟩) ev w hv hev).mono ?_
    rintro e w' ⟨N, rfl, _, _, hb⟩
    exact ⟨.inr ⟨_, _, fun v => (by simp), rfl⟩, hb⟩

/-- A panic with an error's number. -/
abbrev panics (c : Int) : Ending := .panicked [{ v := .iface 36 (.int .i64 c), recovered := false }]
theorem body_panics {P : Program} {fn : Func} {R : Ending → World → Prop} {chain : List PanicEntry} {ts : Array Value} {w : World} (h : R (.panicked chain) w) : bodyPost P fn R (.panic chain) { tmps := ts, defers := [] } w := by
  simpa [bodyPost] using h
/-- A number, or a panic that tells what is wrong. -/
def Gives (e : Ending) : Except Int Value → Prop
  | .ok v => e = .returned v
  | .error c => e = panics c
theorem Gives.ok {e : Ending} {x : Except Int Value} {v : Value} (h : Gives e x) (hx : x = .ok v) : e = .returned v := by subst hx; exact h
theorem Gives.err {e : Ending} {x : Except Int Value} {c : Int} (h : Gives e x) (hx : x = .error c) : e = panics c := by subst hx; exact h
def numX (s : Bytes) : Except Int Value := match wordV s with | some v => .ok (.int .i64 v) | none => .error 7
theorem wordV_some {s : Bytes} {v : Int} : wordV s = some v ↔ Go.Lib.atoiAll s = .ok v ∧ Go.Lib.itoa v = s ∧ near v := by
  unfold wordV numV near
  cases h : Go.Lib.atoiAll s with
  | ok u =>
    by_cases hi : Go.Lib.itoa u = s
    · simp only [hi, if_true]
      split
      · rename_i hr
        simp only [reduceCtorEq, false_iff, not_and]
        rintro h1 _
        cases h1
        omega
      · rename_i hr
        simp only [Option.some.injEq]
        constructor
        · rintro rfl; exact ⟨rfl, hi, by omega⟩
        · rintro ⟨h1, _⟩; cases h1; rfl
    · simp only [hi, if_false, reduceCtorEq, false_iff, not_and]
      rintro h1 h2
      cases h1
      exact absurd h2 hi
  | range => simp
  | _ => simp
theorem wordV_near {s : Bytes} {v : Int} (h : wordV s = some v) : near v := (wordV_some.1 h).2.2

set_option maxHeartbeats 1000000 in
theorem number_any (s : Bytes) (hs : s.length ≤ 281474976710656) (w : World) (hg : Gl w) : Calls Tryz.prog 43 #[str s] w fun e w' => Gives e (numX s) ∧ Below w.heap.size w w' := by
  have HA := Lib.hid (atoi_any s hs w hg)
  have HG := Lib.hid hg
  clear hg
  go_enter Tryz.func43, Tryz.ntmps43
  go_wp2_with fail
  refine HA.out.mono ?_
  clear HA
  rintro e w1 ⟨⟨v, hv, rfl⟩ | ⟨z, x, hno, rfl⟩, hb1⟩
  rotate_left
  · have HP := Lib.hid (show numX s = .error 7 by
      unfold numX
      cases h : wordV s with
      | none => rfl
      | some v => exact absurd (wordV_some.1 h).1 (hno v))
    clear hno
    go_wp2_with fail
    refine body_panics ⟨?_, hb1⟩
    rw [HP.out]; rfl
  · have HV := Lib.hid hv
    have HB1 := Lib.hid hb1
    clear hv hb1
    by_cases h1 : v < -1073741824
    · have HP := Lib.hid (show numX s = .error 7 by
        unfold numX
        cases h : wordV s with
        | none => rfl
        | some u =>
          obtain ⟨h2, _, h3⟩ := wordV_some.1 h
          rw [HV.out] at h2
          cases h2
          unfold near at h3; omega)
      have d1 : decide (v < -1073741824) = true := decide_eq_true h1
      go_wp2_with fail
      refine body_panics ⟨?_, HB1.out⟩
      rw [HP.out]; rfl
    · have d1 : decide (v < -1073741824) = false := decide_eq_false h1
      by_cases h2 : 1073741824 < v
      · have HP := Lib.hid (show numX s = .error 7 by
          unfold numX
          cases h : wordV s with
          | none => rfl
          | some u =>
            obtain ⟨h2, _, h3⟩ := wordV_some.1 h
            rw [HV.out] at h2
            cases h2
            unfold near at h3; omega)
        have d2 : decide (1073741824 < v) = true := decide_eq_true h2
        go_wp2_with fail
        refine body_panics ⟨?_, HB1.out⟩
        rw [HP.out]; rfl
      · have d2 : decide (1073741824 < v) = false := decide_eq_false h2
        have HI := Lib.hid (itoa_any v ⟨by omega, by omega⟩ w1 (HG.out.on HB1.out))
        go_wp2_with fail
        refine HI.out.mono ?_
        rintro e w2 ⟨rfl, hb2⟩
        have HB2 := Lib.hid (HB1.out.trans (hb2.mono HB1.out.size))
        clear hb2 HI
        by_cases hi : Go.Lib.itoa v = s
        · have hb : (Go.Lib.itoa v == s) = true := by rw [beq_iff_eq]; exact hi
          have HP := Lib.hid (show numX s = .ok (.int .i64 v) by unfold numX; rw [wordV_some.2 ⟨HV.out, hi, by omega, by omega⟩])
          clear hi
          go_wp2_with fail
          go_ret
          rw [HP.out]
          exact ⟨rfl, HB2.out⟩
        · have hb : (Go.Lib.itoa v == s) = false := by rw [beq_eq_false_iff_ne]; exact hi
          have HP := Lib.hid (show numX s = .error 7 by
            unfold numX
            cases h : wordV s with
            | none => rfl
            | some u =>
              obtain ⟨h2, h3, _⟩ := wordV_some.1 h
              rw [HV.out] at h2
              cases h2
              exact absurd h3 hi)
          clear hi
          go_wp2_with fail
          refine body_panics ⟨?_, HB2.out⟩
          rw [HP.out]; rfl
end Go.Proofs.YtalbllijahiiiaaGreatDoor
