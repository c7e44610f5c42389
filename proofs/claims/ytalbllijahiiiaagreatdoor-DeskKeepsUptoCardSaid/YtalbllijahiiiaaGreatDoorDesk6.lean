/- gen.Replay: what is made of a tape. -/
import Derived.Test.YtalbllijahiiiaaGreatDoorDesk5
import Derived.Defers
import Derived.Recover
import Derived.Laws.Pointers
namespace Go.Proofs.YtalbllijahiiiaaGreatDoor
open Go.RowKit Go.Mine Go.Mine.Desk

/-- A value that lies from a block on. -/
def ValAt (w : World) (B : Nat) (v : Value) : V → Prop
  | .num z => v = numV' z
  | .list zs => ∃ u, v = .agg #[.bool true, .int .i64 0, u] ∧ w.ownsRow B 53 3 u zs.length (flatV zs)
def valBlock : Value → Option Nat
  | .agg cs => (cs.getD 2 (.bool false)).ownBlock
  | _ => none
theorem ValAt.same {w w' : World} {B : Nat} {v : Value} {x : V} (h : ValAt w B v x) (hs : ∀ g, valBlock v = some g → B ≤ g → g < w.heap.size → w'.heap[g]? = w.heap[g]?) : ValAt w' B v x := by
  cases x with
  | num z => exact h
  | list zs =>
    obtain ⟨u, rfl, hu⟩ := h
    exact ⟨u, rfl, owns_same hu fun g hg => hs g hg (hu.lt g hg).1 (hu.lt g hg).2⟩
theorem ValAt.below {w w' : World} {B : Nat} {v : Value} {x : V} (h : ValAt w B v x) (hb : Below w.heap.size w w') : ValAt w' B v x := h.same fun _ _ _ hg => hb.block _ hg
theorem ValAt.lt {w : World} {B : Nat} {v : Value} {x : V} (h : ValAt w B v x) : ∀ g, valBlock v = some g → B ≤ g ∧ g < w.heap.size := by
  cases x with
  | num z => intro g hg; rw [show v = numV' z from h] at hg; simp [valBlock, Value.ownBlock] at hg
  | list zs =>
    obtain ⟨u, rfl, hu⟩ := h
    exact fun g hg => hu.lt g hg
theorem ValAt.mono {w : World} {B B' : Nat} {v : Value} {x : V} (h : ValAt w B v x) (hB : B' ≤ B) : ValAt w B' v x := by
  cases x with
  | num z => exact h
  | list zs =>
    obtain ⟨u, rfl, hu⟩ := h
    exact ⟨u, rfl, hu.mono hB⟩
theorem ValAt.shape {w : World} {B : Nat} {v : Value} {x : V} (h : ValAt w B v x) : ∃ k z ao n c, v = .agg #[.bool k, .int .i64 z, .slice ao n c] := by
  cases x with
  | num z => exact ⟨_, _, _, _, _, h⟩
  | list zs =>
    obtain ⟨u, rfl, hu⟩ := h
    rcases hu.2 with ⟨rfl, _⟩ | ⟨g, cap, cur, rfl, _⟩
    · exact ⟨_, _, _, _, _, rfl⟩
    · exact ⟨_, _, _, _, _, rfl⟩
/-- What is made of choices. -/
def Chooser.play {σ τ : Type} (C : Chooser σ τ) : G → τ → Except Int (V × τ)
  | .int a b, s => match C.step s (b - a) with
    | .error c => .error c
    | .ok (x, t) => .ok (.num (a + x), t)
  | .many n a b, s => match C.step s n with
    | .error c => .error c
    | .ok (k, s1) => match C.many (b - a) k.toNat s1 with
      | .error c => .error c
      | .ok (xs, t) => .ok (.list (xs.map (a + ·)), t)
structure Chooser.Made {σ τ : Type} (C : Chooser σ τ) (s : σ) (g : G) (w : World) (e : Ending) (w' : World) : Prop where
  tch : Tch (C.own s) w w'
  how : (∃ x t v, C.play g (C.abs s) = .ok (x, C.abs t) ∧ e = .returned v ∧ ValAt w' w.heap.size v x ∧ (∀ b, valBlock v = some b → ¬ C.own t b) ∧ C.I t w' ∧ ∀ k, C.own t k → C.own s k ∨ w.heap.size ≤ k) ∨ (∃ c, C.play g (C.abs s) = .error c ∧ e = panics c)
theorem made_any {σ τ : Type} (C : Chooser σ τ) (hC : C.Does) (g : G) (v : Value) (hr : g.right) (s : σ) (w : World) (hI : C.I s w) (hrm : 6 ≤ C.room s) (hv : GenAt w v g) (hgl : ∀ n gb, v = manyG n gb → ¬ C.own s gb) :
    Calls Tryz.prog 86 #[.func (.func C.gf) #[] C.caps, v] w (C.Made s g w) := by
  cases g with
  | int a b =>
    obtain rfl : v = intG a b := hv
    obtain ⟨ha, hb, hab, hba⟩ := hr
    refine (made_int C hC a b ha hb ⟨hab, hba⟩ s w hI (by omega)).mono ?_
    rintro e w' ⟨ht, h⟩
    refine ⟨ht, ?_⟩
    rcases h with ⟨x, t, h1, h2, h3, rfl, h5, _, h6⟩ | ⟨c, h1, h2⟩
    · exact .inl ⟨.num (a + x), t, _, by rw [Chooser.play, h1], rfl, rfl, by simp [valBlock, Value.ownBlock], h5, h6⟩
    · exact .inr ⟨c, by rw [Chooser.play, h1], h2⟩
  | many n a b =>
    obtain ⟨gb, rfl, hs⟩ := hv
    refine (made_many C hC n a b gb hr s w hI hrm hs (hgl n gb rfl)).mono ?_
    rintro e w' ⟨ht, h⟩
    refine ⟨ht, ?_⟩
    rcases h with ⟨k, s1, xs, t, v, h1, h2, h3, h4, rfl, h6, h7, h8, h9⟩ | ⟨c, h1, h2⟩
    · exact .inl ⟨.list (xs.map (a + ·)), t, _, by rw [Chooser.play, h1]; simp only [h4], rfl, ⟨v, rfl, by simpa using h6⟩, h7, h8, h9⟩
    · refine .inr ⟨c, ?_, h2⟩
      rcases h1 with h1 | ⟨k, s1, h1, h3⟩
      · rw [Chooser.play, h1]
      · rw [Chooser.play, h1]; simp only [h3]

/-! The choices that a tape tells. -/
def tapeStep (ts : List Int) (s : Nat) (m : Int) : Except Int (Int × Nat) := match ts.drop s with
  | [] => .error 5
  | x :: _ => if x < 0 ∨ m < x then .error 1 else .ok (x, s + 1)
theorem rep_enters (lb : Array Value) (v : Value) (w : World) : Sem.run Tryz.prog (callFunc 85 (#[v] ++ lb)) w = .ok (.enter 85 (#[v] ++ lb)) w := by kernel_rfl
def repC (ts : List Int) (ao : Option Addr) (n c pb tb : Nat) (W : World) (hp : W.heap.size ≤ pb) : Chooser Nat Nat where
  gf := 85
  caps := #[.pointer (some ⟨pb, 0, none⟩), .pointer (some ⟨tb, 0, none⟩)]
  I s w := Blk w pb 3 #[.int .i64 s] ∧ Blk w tb 48 #[.slice ao n c] ∧ (∀ k, k < W.heap.size → w.heap[k]? = W.heap[k]?) ∧ s ≤ ts.length
  own _ k := k = pb ∨ k = tb
  abs s := s
  step := tapeStep ts
  lo := W.heap.size
  room _ := 6
  keep s w w' h h1 h2 := ⟨h.1.same (h1 pb (.inl rfl)), h.2.1.same (h1 tb (.inr rfl)), fun k hk => (h2 k hk).trans (h.2.2.1 k hk), h.2.2.2⟩
  low s w h := by have := h.1.lt; omega
  lt s w k h hk := by
    rcases hk with rfl | rfl
    · exact h.1.lt
    · exact h.2.1.lt
  enters := rep_enters _
set_option maxHeartbeats 1000000 in
theorem rep_does (ts : List Int) (ao : Option Addr) (n c pb tb : Nat) (W : World) (hp : W.heap.size ≤ pb) (hpt : pb ≠ tb) (hn : ts.length = n) (hl : n ≤ maxLen) (hat : IntsAt .i64 W ao ts) : (repC ts ao n c pb tb W hp).Does := by
  rintro s w m ⟨k0, k1, hsame, hs⟩ _ hm0 hm1
  show Calls Tryz.prog 85 #[.int .i64 m, .pointer (some ⟨pb, 0, none⟩), .pointer (some ⟨tb, 0, none⟩)] w _
  have hl' : n ≤ 9223372036854775807 := by unfold maxLen at hl; omega
  have c0 : w.cell? ⟨pb, 0, none⟩ = some (.int .i64 (s : Int)) := k0.cell 0
  have c1 : w.cell? ⟨tb, 0, none⟩ = some (.slice ao n c) := k1.cell 0
  have f0 : w.frozen? ⟨pb, 0, none⟩ = false := k0.froz 0
  have HT := Lib.hid (Tch.refl ((repC ts ao n c pb tb W hp).own s) w)
  rcases Nat.lt_or_ge s n with hsn | hsn
  · obtain ⟨b, o, rfl, hx⟩ := hat s (by omega)
    have hxw : w.cell? ⟨b, o + s, none⟩ = some (.int .i64 (ts.getD s 0)) := by
      have hb := World.block_lt_of_cell? W _ hx
      rw [← hx]; exact World.cell?_of_block (hsame b hb)
    have hdrop : ts.drop s = ts.getD s 0 :: ts.drop (s + 1) := by
      rw [List.drop_eq_getElem_cons (by omega)]; simp [show s < ts.length by omega]
    obtain ⟨x, hxe⟩ : ∃ x, ts.getD s 0 = x := ⟨_, rfl⟩
    rw [hxe] at hxw hdrop
    have hi0 : (0 : Int) ≤ (s : Int) := by omega
    have hi1 : (s : Int) < (n : Int) := by omega
    have hne : ((s : Int) == (n : Int)) = false := by rw [beq_eq_false_iff_ne]; omega
    have hne' : ¬ ((s : Int) = (n : Int)) := by omega
    have hstep : tapeStep ts s m = if x < 0 ∨ m < x then .error 1 else .ok (x, s + 1) := by rw [tapeStep, hdrop]
    by_cases hbad : x < 0 ∨ m < x
    · have HS := Lib.hid (show tapeStep ts s m = .error 1 by rw [hstep, if_pos hbad])
      clear hstep
      rcases Int.lt_or_le x 0 with hx0 | hx0
      · go_enter Tryz.func85, Tryz.ntmps85
        go_wp2_with fail
        exact body_panics ⟨HT.out, .inr ⟨1, HS.out, rfl⟩⟩
      · have hx1 : m < x := by omega
        have hx2 : ¬ x < 0 := by omega
        go_enter Tryz.func85, Tryz.ntmps85
        go_wp2_with fail
        exact body_panics ⟨HT.out, .inr ⟨1, HS.out, rfl⟩⟩
    · have HS := Lib.hid (show tapeStep ts s m = .ok (x, s + 1) by rw [hstep, if_neg hbad])
      have hx0 : ¬ x < 0 := by omega
      have hx1 : ¬ m < x := by omega
      have hw1 : IntKind.i64.wrap ((s : Int) + 1) = ((s + 1 : Nat) : Int) := by rw [IntWalk.i64_in _ (by omega)]; omega
      have HK := Lib.hid (And.intro k0 (And.intro k1 hsame))
      clear hstep k0 k1 hsame hat
      go_enter Tryz.func85, Tryz.ntmps85
      go_wp2_with fail
      go_ret
      refine ⟨HT.out.set (.inl (.inl rfl)) _, .inl ⟨x, s + 1, HS.out, by omega, by omega, rfl, ⟨?_, ?_, ?_, by omega⟩, Nat.le_succ _, fun k hk => .inl hk⟩⟩
      · exact HK.out.1.set 0 _
      · exact HK.out.2.1.other _ _ (fun e => hpt e.symm) _
      · intro k hk
        rw [Below.heap_setCell _ _ _ _ (by show k ≠ pb; omega)]
        exact HK.out.2.2 k hk
  · obtain rfl : s = n := by omega
    have HS := Lib.hid (show tapeStep ts s m = .error 5 by rw [tapeStep, List.drop_eq_nil_of_le (by omega)])
    go_enter Tryz.func85, Tryz.ntmps85
    go_wp2_with fail
    exact body_panics ⟨HT.out, .inr ⟨5, HS.out, rfl⟩⟩

/-! What the tape makes, plainly. -/
theorem playN_snoc (a m : Int) : ∀ (k : Nat) (r : List Int), playN a m (k + 1) r = match playN a m k r with
    | .error e => .error e
    | .ok (_, []) => .error 5
    | .ok (zs, x :: r') => if x < 0 ∨ m < x then .error 1 else .ok (zs ++ [a + x], r')
  | 0, [] => rfl
  | 0, x :: r => by
    rw [playN]
    simp only [playN]
    by_cases h : x < 0 ∨ m < x
    · rw [if_pos h, if_pos h]
    · rw [if_neg h, if_neg h]; rfl
  | k + 1, [] => rfl
  | k + 1, x :: r => by
    rw [playN, playN_snoc a m k r, playN]
    by_cases h : x < 0 ∨ m < x
    · rw [if_pos h, if_pos h]
    · rw [if_neg h, if_neg h]
      cases playN a m k r with
      | error e => rfl
      | ok q =>
        obtain ⟨zs, r'⟩ := q
        cases r' with
        | nil => rfl
        | cons y r' =>
          simp only
          by_cases h2 : y < 0 ∨ m < y
          · rw [if_pos h2, if_pos h2]
          · rw [if_neg h2, if_neg h2]; rfl
theorem rep_many (ts : List Int) (ao : Option Addr) (n c pb tb : Nat) (W : World) (hp : W.heap.size ≤ pb) (a m : Int) : ∀ (k s : Nat), playN a m k (ts.drop s) = match (repC ts ao n c pb tb W hp).many m k s with
    | .error e => .error e
    | .ok (xs, t) => .ok (xs.map (a + ·), ts.drop t)
  | 0, s => rfl
  | k + 1, s => by
    rw [playN_snoc, rep_many ts ao n c pb tb W hp a m k s, Chooser.many]
    cases (repC ts ao n c pb tb W hp).many m k s with
    | error e => rfl
    | ok q =>
      obtain ⟨xs, t⟩ := q
      simp only
      rw [show (repC ts ao n c pb tb W hp).step = tapeStep ts from rfl, tapeStep]
      cases hd : ts.drop t with
      | nil => rfl
      | cons x r =>
        simp only
        by_cases h : x < 0 ∨ m < x
        · rw [if_pos h, if_pos h]
        · rw [if_neg h, if_neg h]
          simp only [List.map_append, List.map_cons, List.map_nil]
          rw [show ts.drop (t + 1) = r by rw [← List.tail_drop, hd]; rfl]
theorem rep_play (ts : List Int) (ao : Option Addr) (n c pb tb : Nat) (W : World) (hp : W.heap.size ≤ pb) (g : G) : replay g ts = match (repC ts ao n c pb tb W hp).play g 0 with
    | .error e => .error e
    | .ok (v, t) => if ts.length ≤ t then .ok v else .error 3 := by
  cases g with
  | int a b =>
    rw [replay, Chooser.play, show (repC ts ao n c pb tb W hp).step = tapeStep ts from rfl, tapeStep, List.drop_zero]
    cases ts with
    | nil => rfl
    | cons x r =>
      simp only [playN]
      by_cases h : x < 0 ∨ b - a < x
      · rw [if_pos h, if_pos h]
      · rw [if_neg h, if_neg h]
        cases r with
        | nil => rfl
        | cons y r => simp
  | many k a b =>
    rw [Chooser.play, show (repC ts ao n c pb tb W hp).step = tapeStep ts from rfl, tapeStep, List.drop_zero]
    cases ts with
    | nil => rfl
    | cons x r =>
      simp only [replay]
      by_cases h : x < 0 ∨ k < x
      · rw [if_pos h, if_pos h]
      · rw [if_neg h, if_neg h]
        have hm := rep_many (x :: r) ao n c pb tb W hp a (b - a) x.toNat 1
        rw [show (x :: r).drop 1 = r from rfl] at hm
        simp only [Nat.zero_add]
        rw [hm]
        cases (repC (x :: r) ao n c pb tb W hp).many (b - a) x.toNat 1 with
        | error e => rfl
        | ok q =>
          obtain ⟨xs, t⟩ := q
          simp only [List.drop_eq_nil_iff]
end Go.Proofs.YtalbllijahiiiaaGreatDoor
