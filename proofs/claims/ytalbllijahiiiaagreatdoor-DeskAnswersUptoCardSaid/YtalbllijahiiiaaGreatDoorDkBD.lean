/- assayerref1's plays, plainly: what choice, Played, ReplayOf, MendOf come to. No program. assayerref1.choice. -/
import Derived.Test.YtalbllijahiiiaaGreatDoorDkBC
section
namespace Go.Proofs.YtalbllijahiiiaaGreatDoor
open Go.RowKit Go.Mine Go.Mine.Desk

structure PS where
  t : List Int
  pos : Nat
  err : Int
def ch (l : List Int) (md : Bool) (m : Int) (s : PS) : PS × Int :=
  if md = true then (⟨s.t ++ [clamp m (l.getD s.pos 0)], s.pos + 1, s.err⟩, clamp m (l.getD s.pos 0))
  else if s.pos < l.length then (if l.getD s.pos 0 < 0 ∨ m < l.getD s.pos 0 then (⟨s.t, s.pos, 1⟩, 0) else (⟨s.t ++ [l.getD s.pos 0], s.pos + 1, s.err⟩, l.getD s.pos 0))
  else (⟨s.t, s.pos, 5⟩, 0)
def st1 (l : List Int) (md : Bool) (a m : Int) (q : PS × Int) : PS × Int := if q.1.err = 0 then ((ch l md m q.1).1, a + (ch l md m q.1).2) else q
def stN (l : List Int) (md : Bool) (a m : Int) (q : PS × Int) : Nat → PS × Int
  | 0 => q
  | k + 1 => st1 l md a m (stN l md a m q k)
def zsN (l : List Int) (md : Bool) (a m : Int) (q : PS × Int) : Nat → List Int
  | 0 => []
  | k + 1 => zsN l md a m q k ++ [(stN l md a m q (k + 1)).2]
theorem zsN_len (l : List Int) (md : Bool) (a m : Int) (q : PS × Int) : ∀ k, (zsN l md a m q k).length = k
  | 0 => rfl
  | k + 1 => by rw [zsN, List.length_append, zsN_len]; rfl
def ps0 : PS := ⟨[], 0, 0⟩
def plS (l : List Int) (md : Bool) : G → PS
  | .int a b => (st1 l md a (b - a) (ps0, 0)).1
  | .many n a b => (stN l md a (b - a) ((ch l md n ps0).1, 0) (ch l md n ps0).2.toNat).1
def plV (l : List Int) (md : Bool) : G → V
  | .int a b => .num (st1 l md a (b - a) (ps0, 0)).2
  | .many n a b => .list (zsN l md a (b - a) ((ch l md n ps0).1, 0) (ch l md n ps0).2.toNat)

/-! What a choice keeps. -/
theorem clamp_in {m : Int} (x : Int) (hm : 0 ≤ m) : 0 ≤ clamp m x ∧ clamp m x ≤ m := by unfold clamp; omega
theorem ch_b {l : List Int} {md : Bool} {m : Int} (hm : 0 ≤ m) (s : PS) : 0 ≤ (ch l md m s).2 ∧ (ch l md m s).2 ≤ m ∧ (ch l md m s).1.t.length ≤ s.t.length + 1 ∧ (ch l md m s).1.pos ≤ s.pos + 1 := by
  unfold ch
  split
  · have := clamp_in (l.getD s.pos 0) hm
    refine ⟨this.1, this.2, ?_, ?_⟩ <;> simp
  · split
    · split
      · exact ⟨Int.le_refl _, hm, by simp, by simp⟩
      · refine ⟨by simp only; omega, by simp only; omega, ?_, ?_⟩ <;> simp
    · exact ⟨Int.le_refl _, hm, by simp, by simp⟩
theorem st1_b {l : List Int} {md : Bool} {a m : Int} (hm : 0 ≤ m) (q : PS × Int) : (st1 l md a m q).1.t.length ≤ q.1.t.length + 1 ∧ (st1 l md a m q).1.pos ≤ q.1.pos + 1 ∧ ((st1 l md a m q).2 = q.2 ∨ (a ≤ (st1 l md a m q).2 ∧ (st1 l md a m q).2 ≤ a + m)) := by
  unfold st1
  split
  · obtain ⟨h1, h2, h3, h4⟩ := ch_b (l := l) (md := md) hm q.1
    refine ⟨h3, h4, .inr ?_⟩
    simp only
    omega
  · exact ⟨by omega, by omega, .inl rfl⟩
theorem stN_b {l : List Int} {md : Bool} {a m : Int} (hm : 0 ≤ m) (q : PS × Int) : ∀ k, (stN l md a m q k).1.t.length ≤ q.1.t.length + k ∧ (stN l md a m q k).1.pos ≤ q.1.pos + k
  | 0 => by simp [stN]
  | k + 1 => by
    have h1 := stN_b (l := l) (md := md) (a := a) hm q k
    have h2 := st1_b (l := l) (md := md) (a := a) hm (stN l md a m q k)
    rw [stN]
    omega

/-! Replay. -/
theorem rep_st (l : List Int) (a m : Int) (q : PS × Int) (h0 : q.1.err = 0) (ha : q.1.pos ≤ l.length) : ∀ k,
    (playN a m k (l.drop q.1.pos) = .ok (zsN l false a m q k, l.drop (q.1.pos + k)) ∧ (stN l false a m q k).1.err = 0 ∧ (stN l false a m q k).1.pos = q.1.pos + k ∧ q.1.pos + k ≤ l.length) ∨
    (∃ c, playN a m k (l.drop q.1.pos) = .error c ∧ (c = 1 ∨ c = 5) ∧ (stN l false a m q k).1.err = c)
  | 0 => .inl ⟨rfl, h0, rfl, ha⟩
  | k + 1 => by
    rw [playN_snoc, stN, zsN, stN]
    rcases rep_st l a m q h0 ha k with ⟨h1, h2, h3, h4⟩ | ⟨c, h1, h2, h3⟩
    · rw [h1]
      (try simp only)
      have hst : st1 l false a m (stN l false a m q k) = ((ch l false m (stN l false a m q k).1).1, a + (ch l false m (stN l false a m q k).1).2) := by unfold st1; rw [if_pos h2]
      rw [hst]
      have hch : ch l false m (stN l false a m q k).1 = if q.1.pos + k < l.length then (if l.getD (q.1.pos + k) 0 < 0 ∨ m < l.getD (q.1.pos + k) 0 then (⟨(stN l false a m q k).1.t, q.1.pos + k, 1⟩, 0) else (⟨(stN l false a m q k).1.t ++ [l.getD (q.1.pos + k) 0], q.1.pos + k + 1, 0⟩, l.getD (q.1.pos + k) 0)) else (⟨(stN l false a m q k).1.t, q.1.pos + k, 5⟩, 0) := by
        unfold ch
        rw [if_neg (by simp), h3, h2]
      rw [hch]
      by_cases hlt : q.1.pos + k < l.length
      · have hd : l.drop (q.1.pos + k) = l.getD (q.1.pos + k) 0 :: l.drop (q.1.pos + k + 1) := by
          rw [List.drop_eq_getElem_cons hlt]; simp [hlt]
        rw [hd, if_pos hlt]
        simp only
        by_cases hb : l.getD (q.1.pos + k) 0 < 0 ∨ m < l.getD (q.1.pos + k) 0
        · rw [if_pos hb, if_pos hb]
          exact .inr ⟨1, rfl, .inl rfl, rfl⟩
        · rw [if_neg hb, if_neg hb]
          exact .inl ⟨rfl, rfl, rfl, by omega⟩
      · rw [if_neg hlt, List.drop_eq_nil_of_le (by omega)]
        exact .inr ⟨5, rfl, .inr rfl, rfl⟩
    · rw [h1]
      have hc0 : (stN l false a m q k).1.err ≠ 0 := by rw [h3]; rcases h2 with rfl | rfl <;> decide
      refine .inr ⟨c, rfl, h2, ?_⟩
      unfold st1
      rw [if_neg hc0]
      exact h3
def outOf (s : PS) (l : List Int) (v : V) : Except Int V := if s.err = 0 then (if s.pos < l.length then .error 3 else .ok v) else .error s.err
theorem outOf_more {s : PS} {l : List Int} (v : V) (h : s.err = 0) (h2 : s.pos < l.length) : outOf s l v = .error 3 := by unfold outOf; rw [if_pos h, if_pos h2]
theorem outOf_ok {s : PS} {l : List Int} (v : V) (h : s.err = 0) (h2 : ¬ s.pos < l.length) : outOf s l v = .ok v := by unfold outOf; rw [if_pos h, if_neg h2]
theorem outOf_err {s : PS} {l : List Int} (v : V) {c : Int} (h : s.err = c) (h2 : c = 1 ∨ c = 5) : outOf s l v = .error c := by
  unfold outOf
  rw [if_neg (by rw [h]; rcases h2 with rfl | rfl <;> decide), h]
theorem drop_nil_iff {l : List Int} {k : Nat} (h : k ≤ l.length) : (l.drop k = []) ↔ ¬ k < l.length := by
  rw [List.drop_eq_nil_iff]
  omega
theorem replay_int (a b : Int) (l : List Int) : replay (.int a b) l = outOf (st1 l false a (b - a) (ps0, 0)).1 l (.num (st1 l false a (b - a) (ps0, 0)).2) := by
  have h := rep_st l a (b - a) (ps0, 0) rfl (Nat.zero_le _) 1
  have e1 : stN l false a (b - a) (ps0, 0) 1 = st1 l false a (b - a) (ps0, 0) := rfl
  have e3 : zsN l false a (b - a) (ps0, 0) 1 = [(st1 l false a (b - a) (ps0, 0)).2] := rfl
  rw [e1, e3] at h
  have e2 : l.drop (ps0, (0 : Int)).1.pos = l := rfl
  rw [e2] at h
  rw [replay]
  rcases h with ⟨h1, h2, h3, h4⟩ | ⟨c, h1, h2, h3⟩
  · rw [h1]
    simp only
    by_cases hn : l.drop ((ps0, (0 : Int)).1.pos + 1) = []
    · rw [if_pos hn, outOf_ok _ h2 (by rw [h3]; exact (drop_nil_iff h4).1 hn)]
      rfl
    · have : (ps0, (0 : Int)).1.pos + 1 < l.length := by
        apply Classical.byContradiction
        intro hc
        exact hn ((drop_nil_iff h4).2 hc)
      rw [if_neg hn, outOf_more _ h2 (by rw [h3]; exact this)]
  · rw [h1, outOf_err _ h3 h2]
theorem replay_many0 (a b n : Int) : replay (.many n a b) [] = .error 5 := rfl
theorem replay_many1 (a b n x : Int) (r : List Int) : replay (.many n a b) (x :: r) = if x < 0 ∨ n < x then .error 1 else outOf (stN (x :: r) false a (b - a) (⟨[x], 1, 0⟩, 0) x.toNat).1 (x :: r) (.list (zsN (x :: r) false a (b - a) (⟨[x], 1, 0⟩, 0) x.toNat)) := by
  rw [replay]
  by_cases hb : x < 0 ∨ n < x
  · rw [if_pos hb, if_pos hb]
  · rw [if_neg hb, if_neg hb]
    have h := rep_st (x :: r) a (b - a) (⟨[x], 1, 0⟩, 0) rfl (by simp) x.toNat
    have e2 : (x :: r).drop ((⟨[x], 1, 0⟩ : PS), (0 : Int)).1.pos = r := rfl
    rw [e2] at h
    rcases h with ⟨h1, h2, h3, h4⟩ | ⟨c, h1, h2, h3⟩
    · rw [h1]
      simp only
      by_cases hn : (x :: r).drop (((⟨[x], 1, 0⟩ : PS), (0 : Int)).1.pos + x.toNat) = []
      · rw [if_pos hn, outOf_ok _ h2 (by rw [h3]; exact (drop_nil_iff h4).1 hn)]
      · have : ((⟨[x], 1, 0⟩ : PS), (0 : Int)).1.pos + x.toNat < (x :: r).length := by
          apply Classical.byContradiction
          intro hc
          exact hn ((drop_nil_iff h4).2 hc)
        rw [if_neg hn, outOf_more _ h2 (by rw [h3]; exact this)]
    · rw [h1, outOf_err _ h3 h2]
theorem replay_pl (g : G) (l : List Int) : replay g l = outOf (plS l false g) l (plV l false g) := by
  cases g with
  | int a b => exact replay_int a b l
  | many n a b =>
    show replay (.many n a b) l = outOf (stN l false a (b - a) ((ch l false n ps0).1, 0) (ch l false n ps0).2.toNat).1 l (.list (zsN l false a (b - a) ((ch l false n ps0).1, 0) (ch l false n ps0).2.toNat))
    cases l with
    | nil =>
      rw [replay_many0]
      have hc : ch [] false n ps0 = (⟨[], 0, 5⟩, 0) := rfl
      rw [hc]
      rfl
    | cons x r =>
      have hc : ch (x :: r) false n ps0 = if x < 0 ∨ n < x then (⟨[], 0, 1⟩, 0) else (⟨[x], 1, 0⟩, x) := by
        unfold ch ps0
        simp
      rw [replay_many1, hc]
      by_cases hb : x < 0 ∨ n < x
      · rw [if_pos hb, if_pos hb]
        rfl
      · rw [if_neg hb, if_neg hb]

/-! Mend. -/
theorem mend_st (l : List Int) (a m : Int) (q : PS × Int) (h0 : q.1.err = 0) : ∀ k, (stN l true a m q k).1 = ⟨q.1.t ++ (List.range k).map (fun i => clamp m (l.getD (q.1.pos + i) 0)), q.1.pos + k, 0⟩
  | 0 => by
    obtain ⟨⟨t, p, e⟩, z⟩ := q
    simp only at h0
    subst h0
    simp [stN]
  | k + 1 => by
    have ih := mend_st l a m q h0 k
    rw [stN]
    unfold st1
    rw [if_pos (by rw [ih])]
    unfold ch
    rw [if_pos rfl, ih]
    simp [List.range_succ, Nat.add_assoc]
theorem mend_pl (g : G) (l : List Int) : (plS l true g).t = mend g l ∧ (plS l true g).err = 0 := by
  cases g with
  | int a b =>
    have h := mend_st l a (b - a) (ps0, 0) rfl 1
    have e1 : stN l true a (b - a) (ps0, 0) 1 = st1 l true a (b - a) (ps0, 0) := rfl
    show (st1 l true a (b - a) (ps0, 0)).1.t = mend (.int a b) l ∧ (st1 l true a (b - a) (ps0, 0)).1.err = 0
    rw [← e1, h]
    simp [ps0, mend, List.range_succ]
  | many n a b =>
    have hc : ch l true n ps0 = (⟨[clamp n (l.getD 0 0)], 1, 0⟩, clamp n (l.getD 0 0)) := by
      unfold ch ps0
      simp
    show (stN l true a (b - a) ((ch l true n ps0).1, 0) (ch l true n ps0).2.toNat).1.t = mend (.many n a b) l ∧ (stN l true a (b - a) ((ch l true n ps0).1, 0) (ch l true n ps0).2.toNat).1.err = 0
    rw [hc]
    have h := mend_st l a (b - a) (⟨[clamp n (l.getD 0 0)], 1, 0⟩, 0) rfl (clamp n (l.getD 0 0)).toNat
    simp only
    rw [h]
    simp only [mend]
    refine ⟨?_, by trivial⟩
    rw [List.singleton_append]
    congr 1
    refine List.map_congr_left fun i _ => ?_
    rw [Nat.add_comm 1 i]
end Go.Proofs.YtalbllijahiiiaaGreatDoor
end

section
namespace Go.Proofs.YtalbllijahiiiaaGreatDoor
open Go.RowKit Go.Mine Go.Mine.Desk

abbrev playV (z : Int) (ao : Option Addr) (n c : Nat) (p e : Int) : Value := .agg #[.bool false, .int .i64 z, .slice none 0 0, .slice ao n c, .int .i64 p, .int .i64 e]
abbrev playC (z : Int) (ao : Option Addr) (n c : Nat) (p e : Int) : Array Value := #[.bool false, .int .i64 z, .slice none 0 0, .slice ao n c, .int .i64 p, .int .i64 e]
def ChoicePost (B0 : Nat) (z : Int) (q : PS × Int) (w : World) (e : Ending) (w' : World) : Prop :=
  Below w.heap.size w w' ∧ ∃ ao c, e = .returned (.tuple #[playV z ao q.1.t.length c q.1.pos q.1.err, .int .i64 q.2]) ∧ w'.ownsRow B0 3 1 (.slice ao q.1.t.length c) q.1.t.length (q.1.t.map (.int .i64))
theorem owns_none {w : World} {base : Nat} {e : TypeId} {ao : Option Addr} {n c : Nat} {xs : List Value} (h : w.ownsRow base e 1 (.slice ao n c) n xs) : ao = none → n = 0 := fun ha => by
  subst ha
  rcases h.2 with ⟨h1, h2⟩ | ⟨g, cap, cur, h1, _⟩
  · cases h1; rfl
  · cases h1
theorem owns_far {w : World} {B0 b : Nat} {e : TypeId} {size : Nat} {v : Value} {n : Nat} {xs : List Value} {T : TypeId} {cs : Array Value} (h : w.ownsRow B0 e size v n xs) (k : Blk w b T cs) (hT : T ≠ e) : ∀ g, v.ownBlock = some g → g ≠ b := by
  rintro g hg rfl
  have hk : w.heap[g]? = _ := k
  rcases h.2 with ⟨rfl, _⟩ | ⟨g1, cap, cur, rfl, _, hb, _⟩
  · cases hg
  · cases hg
    rw [hk] at hb
    simp only [Option.some.injEq, Obj.cells.injEq] at hb
    exact hT hb.2.1
structure CI (w : World) (B0 P : Nat) (z : Int) (ao : Option Addr) (c : Nat) (t : List Int) (p : Int) (W : World) : Prop where
  below : Below w.heap.size w W
  play : Blk W P 79 (playC z ao t.length c p 0)
  res : Blk W (P + 1) 79 (playC 0 none 0 0 0 0)
  row : W.ownsRow B0 3 1 (.slice ao t.length c) t.length (t.map (.int .i64))
theorem CI.next {w : World} {B0 P : Nat} {z : Int} {ao : Option Addr} {c : Nat} {t : List Int} {p p2 : Int} {W W' : World} (h : CI w B0 P z ao c t p W) (hP : w.heap.size = P) (hW : W' = W.setCell ⟨P, 4, none⟩ (.int .i64 p2)) : CI w B0 P z ao c t p2 W' := by
  refine ⟨?_, ?_, ?_, ?_⟩
  · rw [hW]; exact h.below.setCell (by show w.heap.size ≤ P; omega) _
  · rw [hW]; have k := h.play.set 4 (.int .i64 p2); simpa using k
  · rw [hW]; exact h.res.other P 4 (by omega) _
  · rw [hW]
    exact owns_same h.row fun g hg => Below.heap_setCell _ _ _ _ (owns_far h.row h.play (by decide) g hg)
theorem CI.on {w : World} {B0 P : Nat} {z : Int} {ao : Option Addr} {c : Nat} {t : List Int} {p : Int} {W W' : World} (h : CI w B0 P z ao c t p W) (hb : Below W.heap.size W W') : CI w B0 P z ao c t p W' :=
  ⟨h.below.trans (hb.mono h.below.size), h.play.below hb, h.res.below hb, owns_below h.row hb⟩
set_option maxRecDepth 100000 in
set_option maxHeartbeats 2000000 in
theorem choice_in (l : List Int) (lo : Option Addr) (lc : Nat) (m : Int) (hm0 : 0 ≤ m) (_hm1 : m ≤ 1000) (z : Int) (ao : Option Addr) (c : Nat) (t : List Int) (p : Nat) (B0 : Nat) (ht : t.length ≤ 1000) (hp : p ≤ 1000) (_hl : l.length ≤ 1200000) (w : World) (hB0 : B0 ≤ w.heap.size)
    (hat : IntsAt .i64 w lo l) (hown : w.ownsRow B0 3 1 (.slice ao t.length c) t.length (t.map (.int .i64))) (hlt0 : p < l.length) :
    Calls Tryz.prog 66 #[playV z ao t.length c p 0, .slice lo l.length lc, .bool true, .int .i64 m] w (ChoicePost B0 z (ch l true m ⟨t, p, 0⟩) w) := by
  obtain ⟨i1, hj1, hy0, hy1, hy2⟩ := info_parts infoI3d
  obtain ⟨w0, hw0⟩ : ∃ w0, w0 = (w.alloc (.cells (playC z ao t.length c p 0) 79)).alloc (.cells (playC 0 none 0 0 0 0) 79) := ⟨_, rfl⟩
  have hb0 : Below w.heap.size w w0 := by rw [hw0]; exact ((Below.refl w.heap.size w).alloc (Nat.le_refl _) _).alloc (by simp) _
  obtain ⟨P, hP⟩ : ∃ P, w.heap.size = P := ⟨_, rfl⟩
  have hs0 : w0.heap.size = P + 2 := by rw [hw0, ← hP]; simp
  have k0 : Blk w0 P 79 (playC z ao t.length c p 0) := by rw [hw0, ← hP]; exact (Blk.new _ _ _).alloc _
  have k1 : Blk w0 (P + 1) 79 (playC 0 none 0 0 0 0) := by rw [hw0, ← hP]; have := Blk.new (w.alloc (.cells (playC z ao t.length c p 0) 79)) 79 (playC 0 none 0 0 0 0); simpa using this
  have hat0 := ints_keep hat hb0
  have HI := Lib.hid (show CI w B0 P z ao c t p w0 from ⟨hb0, k0, k1, owns_below hown hb0⟩)
  have HPP := Lib.hid hP
  rw [hP] at hB0
  obtain ⟨n, hn⟩ : ∃ n, l.length = n := ⟨_, rfl⟩
  have HNN := Lib.hid hn
  obtain ⟨tn, htn⟩ : ∃ tn, t.length = tn := ⟨_, rfl⟩
  have HTN := Lib.hid htn
  rw [hn] at _hl ⊢
  rw [htn] at ht hw0 ⊢
  simp only [playC] at hw0
  have HW0 := Lib.hid hw0
  have c3 : w0.cell? ⟨P, 3, none⟩ = some (.slice ao tn c) := by rw [← htn]; exact k0.cell 3
  have c0 : w0.cell? ⟨P, 0, none⟩ = some (.bool false) := k0.cell 0
  have c1 : w0.cell? ⟨P, 1, none⟩ = some (.int .i64 z) := k0.cell 1
  have c2 : w0.cell? ⟨P, 2, none⟩ = some (.slice none 0 0) := k0.cell 2
  have c4 : w0.cell? ⟨P, 4, none⟩ = some (.int .i64 (p : Int)) := k0.cell 4
  have c5 : w0.cell? ⟨P, 5, none⟩ = some (.int .i64 0) := k0.cell 5
  have r0 : w0.cell? ⟨P + 1, 0, none⟩ = some (.bool false) := k1.cell 0
  have r1 : w0.cell? ⟨P + 1, 1, none⟩ = some (.int .i64 0) := k1.cell 1
  have r2 : w0.cell? ⟨P + 1, 2, none⟩ = some (.slice none 0 0) := k1.cell 2
  have r3 : w0.cell? ⟨P + 1, 3, none⟩ = some (.slice none 0 0) := k1.cell 3
  have r4 : w0.cell? ⟨P + 1, 4, none⟩ = some (.int .i64 0) := k1.cell 4
  have r5 : w0.cell? ⟨P + 1, 5, none⟩ = some (.int .i64 0) := k1.cell 5
  have s0 : w0.frozen? ⟨P + 1, 0, none⟩ = false := k1.froz 0
  have s1 : w0.frozen? ⟨P + 1, 1, none⟩ = false := k1.froz 1
  have s2 : w0.frozen? ⟨P + 1, 2, none⟩ = false := k1.froz 2
  have s3 : w0.frozen? ⟨P + 1, 3, none⟩ = false := k1.froz 3
  have s4 : w0.frozen? ⟨P + 1, 4, none⟩ = false := k1.froz 4
  have s5 : w0.frozen? ⟨P + 1, 5, none⟩ = false := k1.froz 5
  have f3 : w0.frozen? ⟨P, 3, none⟩ = false := k0.froz 3
  have f4 : w0.frozen? ⟨P, 4, none⟩ = false := k0.froz 4
  have f5 : w0.frozen? ⟨P, 5, none⟩ = false := k0.froz 5
  have hno : ao = none → tn = 0 := fun h => by have := owns_none hown h; omega
  have HNO := Lib.hid hno
  obtain ⟨W1, hW1⟩ : ∃ W1, W1 = w0.setCell ⟨P, 4, none⟩ (.int .i64 ((p : Int) + 1)) := ⟨_, rfl⟩
  have HI1 := Lib.hid (HI.out.next hP hW1)
  have HZ1 := Lib.hid (show P + 2 = W1.heap.size by rw [hW1]; simp [World.setCell, hs0])
  have HW1 := Lib.hid hW1
  clear hat hown hb0 k0 k1 hw0 hno hW1
  have hw1 : IntKind.i64.wrap ((p : Int) + 1) = (p : Int) + 1 := IntWalk.i64_in _ (by omega)
  have hlt : p < n := by rw [← hn]; exact hlt0
  obtain ⟨b, o, rfl, hc⟩ := hat0 p hlt0
  obtain ⟨x, hx⟩ : ∃ x, x = l.getD p 0 := ⟨_, rfl⟩
  rw [← hx] at hc
  have HX := Lib.hid hx
  have HLT := Lib.hid hlt0
  have d1 : decide ((p : Int) < (n : Int)) = true := decide_eq_true (by omega)
  have hi0 : (0 : Int) ≤ (p : Int) := by omega
  have hi1 : (p : Int) < (n : Int) := by omega
  obtain ⟨y, hy⟩ : ∃ y, y = clamp m x := ⟨_, rfl⟩
  have hyb := clamp_in x hm0
  rw [← hy] at hyb
  have hch : ch l true m ⟨t, p, 0⟩ = (⟨t ++ [y], p + 1, 0⟩, y) := by unfold ch; rw [if_pos rfl]; simp only; rw [← HX.out, ← hy]
  have hmx : max 0 (min x m) = y := hy.symm
  have d2 : decide (y < 0) = false := decide_eq_false (by omega)
  have d3 : decide (m < y) = false := decide_eq_false (by omega)
  clear hy hn htn hx hlt0 hat0
  have HCH := Lib.hid hch
  clear hch
  go_enter Tryz.func66, Tryz.ntmps66
  go_upto_region 1 with fail
  rw [← HW0.out]
  go_wp2_with (at_builtin; rw [← HW1.out]; refine wpList_append_any _ rfl _ _ 48 rfl (P + 2) 3 i1 (.int .i64 0) 1 8 Tryz.underlying48 hj1 hy0 hy1 hy2 rfl (by decide) (P + 2) 0 0 [] rfl (owns_empty (Nat.le_refl _) (heap_alloc_at _ _ HZ1.out)) ao tn c (t.map (Value.int .i64)) rfl (by simp [HTN.out]) HNO.out (ints_news ((IntsAt.of_owns HI1.out.row).below (Nat.le_refl _) ((Below.refl _ _).alloc (Nat.le_refl _) _))) (ints1 _ _) (by unfold maxLen; omega) (by omega) (by simp [← HZ1.out]) _ rfl ?_)
  intro g cap w7 hown hgr hg7 hlt
  have hb7 : Below W1.heap.size W1 w7 := ((Below.refl W1.heap.size W1).alloc (Nat.le_refl _) (.cells #[] 3)).grown hgr (by simp) (fun q hq => by cases hq; rw [← HZ1.out]; exact Nat.le_refl _)
  have H7 := Lib.hid (And.intro hown hb7)
  clear hown hgr hg7 hlt hb7
  try simp only [Nat.zero_add, List.nil_append] at H7
  have hz7 : P + 2 ≤ w7.heap.size := by have := H7.out.2.size; rw [← HZ1.out] at this; exact this
  go_wp2_with (at_builtin; refine wpList_push2 _ rfl _ _ 48 rfl (P + 2) 3 i1 (.int .i64 0) 1 8 Tryz.underlying48 hj1 hy0 hy1 hy2 rfl (by decide) _ _ _ rfl (H7.out.1.alloc _) ⟨w7.heap.size, 0, none⟩ 1 [.int .i64 y] rfl rfl (World.news_of_block (cs := #[.int .i64 y]) (t := 3) (fr := (0, 0)) (heap_alloc_at _ _ rfl)) (one1 _ _) (by unfold maxLen; omega) (by omega) (by simp; omega) ?_)
  intro g2 cap2 w8 hown8 hgr8 hat8
  have hb8 : Below W1.heap.size W1 w8 := (H7.out.2.alloc H7.out.2.size (.cells #[.int .i64 y] 3)).grown hgr8 (Nat.le_trans H7.out.2.size (by simp)) (fun q hq => by cases hq; rw [← HZ1.out]; exact (H7.out.1.lt g rfl).1)
  have HI8 := Lib.hid (HI1.out.on hb8)
  have k0 := HI8.out.play
  have k1 := HI8.out.res
  rw [HTN.out] at k0
  have e0 : w8.cell? ⟨P, 0, none⟩ = some (.bool false) := k0.cell 0
  have e1 : w8.cell? ⟨P, 1, none⟩ = some (.int .i64 z) := k0.cell 1
  have e2 : w8.cell? ⟨P, 2, none⟩ = some (.slice none 0 0) := k0.cell 2
  have e3 : w8.cell? ⟨P, 3, none⟩ = some (.slice ao tn c) := k0.cell 3
  have e4 : w8.cell? ⟨P, 4, none⟩ = some (.int .i64 ((p : Int) + 1)) := k0.cell 4
  have e5 : w8.cell? ⟨P, 5, none⟩ = some (.int .i64 0) := k0.cell 5
  have ef3 : w8.frozen? ⟨P, 3, none⟩ = false := k0.froz 3
  have d0' : w8.cell? ⟨P + 1, 0, none⟩ = some (.bool false) := k1.cell 0
  have d1' : w8.cell? ⟨P + 1, 1, none⟩ = some (.int .i64 0) := k1.cell 1
  have d2' : w8.cell? ⟨P + 1, 2, none⟩ = some (.slice none 0 0) := k1.cell 2
  have d3' : w8.cell? ⟨P + 1, 3, none⟩ = some (.slice none 0 0) := k1.cell 3
  have d4' : w8.cell? ⟨P + 1, 4, none⟩ = some (.int .i64 0) := k1.cell 4
  have d5' : w8.cell? ⟨P + 1, 5, none⟩ = some (.int .i64 0) := k1.cell 5
  have df0 : w8.frozen? ⟨P + 1, 0, none⟩ = false := k1.froz 0
  have df1 : w8.frozen? ⟨P + 1, 1, none⟩ = false := k1.froz 1
  have df2 : w8.frozen? ⟨P + 1, 2, none⟩ = false := k1.froz 2
  have df3 : w8.frozen? ⟨P + 1, 3, none⟩ = false := k1.froz 3
  have df4 : w8.frozen? ⟨P + 1, 4, none⟩ = false := k1.froz 4
  have df5 : w8.frozen? ⟨P + 1, 5, none⟩ = false := k1.froz 5
  have HF1 := Lib.hid (owns_far hown8 k0 (by decide))
  have HF2 := Lib.hid (owns_far hown8 k1 (by decide))
  have HO := Lib.hid hown8
  clear hown8 hgr8 hat8 hb8 k0 k1
  go_wp2_with fail
  refine bodyPost_ret (v := .tuple #[playV z (some ⟨g2, 0, none⟩) (tn + 1) cap2 ((p : Int) + 1) 0, .int .i64 y]) (by simp [results, Tryz.results66, go_sem, d0', d1', d2', d3', d4', d5']) rfl ⟨?_, some ⟨g2, 0, none⟩, cap2, ?_, ?_⟩
  · have hPe := HPP.out
    iterate 7 (refine Below.setCell ?_ (by first | (show w.heap.size ≤ P; omega) | (show w.heap.size ≤ P + 1; omega)) _)
    exact HI8.out.below
  · rw [HCH.out]
    simp only [List.length_append, HTN.out, List.length_cons, List.length_nil]
    rfl
  · rw [HCH.out]
    simp only [List.length_append, HTN.out, List.length_cons, List.length_nil, List.map_append, List.map_cons, List.map_nil]
    refine owns_same (HO.out.mono (by omega)) fun q hq => ?_
    have hn1 : q ≠ P := HF1.out q hq
    have hn2 : q ≠ P + 1 := HF2.out q hq
    iterate 7 (rw [Below.heap_setCell _ _ _ _ (by first | exact hn1 | exact hn2)])
set_option maxRecDepth 100000 in
set_option maxHeartbeats 2000000 in
theorem choice_neg (l : List Int) (lo : Option Addr) (lc : Nat) (m : Int) (_hm0 : 0 ≤ m) (_hm1 : m ≤ 1000) (z : Int) (ao : Option Addr) (c : Nat) (t : List Int) (p : Nat) (B0 : Nat) (_ht : t.length ≤ 1000) (hp : p ≤ 1000) (_hl : l.length ≤ 1200000) (w : World) (_hB0 : B0 ≤ w.heap.size)
    (hat : IntsAt .i64 w lo l) (hown : w.ownsRow B0 3 1 (.slice ao t.length c) t.length (t.map (.int .i64))) (hlt0 : p < l.length) (hx0 : l.getD p 0 < 0) :
    Calls Tryz.prog 66 #[playV z ao t.length c p 0, .slice lo l.length lc, .bool false, .int .i64 m] w (ChoicePost B0 z (ch l false m ⟨t, p, 0⟩) w) := by
  obtain ⟨i1, hj1, hy0, hy1, hy2⟩ := info_parts infoI3d
  obtain ⟨w0, hw0⟩ : ∃ w0, w0 = (w.alloc (.cells (playC z ao t.length c p 0) 79)).alloc (.cells (playC 0 none 0 0 0 0) 79) := ⟨_, rfl⟩
  have hb0 : Below w.heap.size w w0 := by rw [hw0]; exact ((Below.refl w.heap.size w).alloc (Nat.le_refl _) _).alloc (by simp) _
  obtain ⟨P, hP⟩ : ∃ P, w.heap.size = P := ⟨_, rfl⟩
  have hs0 : w0.heap.size = P + 2 := by rw [hw0, ← hP]; simp
  have k0 : Blk w0 P 79 (playC z ao t.length c p 0) := by rw [hw0, ← hP]; exact (Blk.new _ _ _).alloc _
  have k1 : Blk w0 (P + 1) 79 (playC 0 none 0 0 0 0) := by rw [hw0, ← hP]; have := Blk.new (w.alloc (.cells (playC z ao t.length c p 0) 79)) 79 (playC 0 none 0 0 0 0); simpa using this
  have hat0 := ints_keep hat hb0
  have HI := Lib.hid (show CI w B0 P z ao c t p w0 from ⟨hb0, k0, k1, owns_below hown hb0⟩)
  have HPP := Lib.hid hP
  rw [hP] at _hB0
  obtain ⟨n, hn⟩ : ∃ n, l.length = n := ⟨_, rfl⟩
  have HNN := Lib.hid hn
  obtain ⟨tn, htn⟩ : ∃ tn, t.length = tn := ⟨_, rfl⟩
  have HTN := Lib.hid htn
  rw [hn] at _hl ⊢
  rw [htn] at _ht hw0 ⊢
  simp only [playC] at hw0
  have HW0 := Lib.hid hw0
  have c3 : w0.cell? ⟨P, 3, none⟩ = some (.slice ao tn c) := by rw [← htn]; exact k0.cell 3
  have c0 : w0.cell? ⟨P, 0, none⟩ = some (.bool false) := k0.cell 0
  have c1 : w0.cell? ⟨P, 1, none⟩ = some (.int .i64 z) := k0.cell 1
  have c2 : w0.cell? ⟨P, 2, none⟩ = some (.slice none 0 0) := k0.cell 2
  have c4 : w0.cell? ⟨P, 4, none⟩ = some (.int .i64 (p : Int)) := k0.cell 4
  have c5 : w0.cell? ⟨P, 5, none⟩ = some (.int .i64 0) := k0.cell 5
  have r0 : w0.cell? ⟨P + 1, 0, none⟩ = some (.bool false) := k1.cell 0
  have r1 : w0.cell? ⟨P + 1, 1, none⟩ = some (.int .i64 0) := k1.cell 1
  have r2 : w0.cell? ⟨P + 1, 2, none⟩ = some (.slice none 0 0) := k1.cell 2
  have r3 : w0.cell? ⟨P + 1, 3, none⟩ = some (.slice none 0 0) := k1.cell 3
  have r4 : w0.cell? ⟨P + 1, 4, none⟩ = some (.int .i64 0) := k1.cell 4
  have r5 : w0.cell? ⟨P + 1, 5, none⟩ = some (.int .i64 0) := k1.cell 5
  have s0 : w0.frozen? ⟨P + 1, 0, none⟩ = false := k1.froz 0
  have s1 : w0.frozen? ⟨P + 1, 1, none⟩ = false := k1.froz 1
  have s2 : w0.frozen? ⟨P + 1, 2, none⟩ = false := k1.froz 2
  have s3 : w0.frozen? ⟨P + 1, 3, none⟩ = false := k1.froz 3
  have s4 : w0.frozen? ⟨P + 1, 4, none⟩ = false := k1.froz 4
  have s5 : w0.frozen? ⟨P + 1, 5, none⟩ = false := k1.froz 5
  have f3 : w0.frozen? ⟨P, 3, none⟩ = false := k0.froz 3
  have f4 : w0.frozen? ⟨P, 4, none⟩ = false := k0.froz 4
  have f5 : w0.frozen? ⟨P, 5, none⟩ = false := k0.froz 5
  have hno : ao = none → tn = 0 := fun h => by have := owns_none hown h; omega
  have HNO := Lib.hid hno
  obtain ⟨W1, hW1⟩ : ∃ W1, W1 = w0.setCell ⟨P, 4, none⟩ (.int .i64 ((p : Int) + 1)) := ⟨_, rfl⟩
  have HI1 := Lib.hid (HI.out.next hP hW1)
  have HZ1 := Lib.hid (show P + 2 = W1.heap.size by rw [hW1]; simp [World.setCell, hs0])
  have HW1 := Lib.hid hW1
  clear hat hown hb0 k0 k1 hw0 hno hW1
  have hw1 : IntKind.i64.wrap ((p : Int) + 1) = (p : Int) + 1 := IntWalk.i64_in _ (by omega)
  have hlt : p < n := by rw [← hn]; exact hlt0
  obtain ⟨b, o, rfl, hc⟩ := hat0 p hlt0
  obtain ⟨x, hx⟩ : ∃ x, x = l.getD p 0 := ⟨_, rfl⟩
  rw [← hx] at hc
  have HX := Lib.hid hx
  have HLT := Lib.hid hlt0
  have d1 : decide ((p : Int) < (n : Int)) = true := decide_eq_true (by omega)
  have hi0 : (0 : Int) ≤ (p : Int) := by omega
  have hi1 : (p : Int) < (n : Int) := by omega
  rw [← hx] at hx0
  have d2 : decide (x < 0) = true := decide_eq_true hx0
  have hch : ch l false m ⟨t, p, 0⟩ = (⟨t, p, 1⟩, 0) := by unfold ch; rw [if_neg (by simp), if_pos HLT.out, ← hx, if_pos (.inl hx0)]
  clear hn htn hx hlt0 hat0
  have HCH := Lib.hid hch
  clear hch
  go_enter Tryz.func66, Tryz.ntmps66
  go_upto_region 1 with fail
  rw [← HW0.out]
  go_wp2_with fail
  refine bodyPost_ret (v := .tuple #[playV z ao tn c (p : Int) 1, .int .i64 0]) (by simp [results, Tryz.results66, go_sem, r0, r1, r2, r3, r4, r5]) rfl ⟨?_, ao, c, ?_, ?_⟩
  · have hPe := HPP.out
    iterate 7 (refine Below.setCell ?_ (by first | (show w.heap.size ≤ P; omega) | (show w.heap.size ≤ P + 1; omega)) _)
    exact HI.out.below
  · rw [HCH.out]
    simp only [HTN.out]
  · rw [HCH.out]
    simp only
    refine owns_same HI.out.row fun q hq => ?_
    have hn1 : q ≠ P := owns_far HI.out.row HI.out.play (by decide) q hq
    have hn2 : q ≠ P + 1 := owns_far HI.out.row HI.out.res (by decide) q hq
    iterate 7 (rw [Below.heap_setCell _ _ _ _ (by first | exact hn1 | exact hn2)])
set_option maxRecDepth 100000 in
set_option maxHeartbeats 2000000 in
theorem choice_big (l : List Int) (lo : Option Addr) (lc : Nat) (m : Int) (_hm0 : 0 ≤ m) (_hm1 : m ≤ 1000) (z : Int) (ao : Option Addr) (c : Nat) (t : List Int) (p : Nat) (B0 : Nat) (_ht : t.length ≤ 1000) (hp : p ≤ 1000) (_hl : l.length ≤ 1200000) (w : World) (_hB0 : B0 ≤ w.heap.size)
    (hat : IntsAt .i64 w lo l) (hown : w.ownsRow B0 3 1 (.slice ao t.length c) t.length (t.map (.int .i64))) (hlt0 : p < l.length) (hx0 : ¬ l.getD p 0 < 0) (hxm : m < l.getD p 0) :
    Calls Tryz.prog 66 #[playV z ao t.length c p 0, .slice lo l.length lc, .bool false, .int .i64 m] w (ChoicePost B0 z (ch l false m ⟨t, p, 0⟩) w) := by
  obtain ⟨i1, hj1, hy0, hy1, hy2⟩ := info_parts infoI3d
  obtain ⟨w0, hw0⟩ : ∃ w0, w0 = (w.alloc (.cells (playC z ao t.length c p 0) 79)).alloc (.cells (playC 0 none 0 0 0 0) 79) := ⟨_, rfl⟩
  have hb0 : Below w.heap.size w w0 := by rw [hw0]; exact ((Below.refl w.heap.size w).alloc (Nat.le_refl _) _).alloc (by simp) _
  obtain ⟨P, hP⟩ : ∃ P, w.heap.size = P := ⟨_, rfl⟩
  have hs0 : w0.heap.size = P + 2 := by rw [hw0, ← hP]; simp
  have k0 : Blk w0 P 79 (playC z ao t.length c p 0) := by rw [hw0, ← hP]; exact (Blk.new _ _ _).alloc _
  have k1 : Blk w0 (P + 1) 79 (playC 0 none 0 0 0 0) := by rw [hw0, ← hP]; have := Blk.new (w.alloc (.cells (playC z ao t.length c p 0) 79)) 79 (playC 0 none 0 0 0 0); simpa using this
  have hat0 := ints_keep hat hb0
  have HI := Lib.hid (show CI w B0 P z ao c t p w0 from ⟨hb0, k0, k1, owns_below hown hb0⟩)
  have HPP := Lib.hid hP
  rw [hP] at _hB0
  obtain ⟨n, hn⟩ : ∃ n, l.length = n := ⟨_, rfl⟩
  have HNN := Lib.hid hn
  obtain ⟨tn, htn⟩ : ∃ tn, t.length = tn := ⟨_, rfl⟩
  have HTN := Lib.hid htn
  rw [hn] at _hl ⊢
  rw [htn] at _ht hw0 ⊢
  simp only [playC] at hw0
  have HW0 := Lib.hid hw0
  have c3 : w0.cell? ⟨P, 3, none⟩ = some (.slice ao tn c) := by rw [← htn]; exact k0.cell 3
  have c0 : w0.cell? ⟨P, 0, none⟩ = some (.bool false) := k0.cell 0
  have c1 : w0.cell? ⟨P, 1, none⟩ = some (.int .i64 z) := k0.cell 1
  have c2 : w0.cell? ⟨P, 2, none⟩ = some (.slice none 0 0) := k0.cell 2
  have c4 : w0.cell? ⟨P, 4, none⟩ = some (.int .i64 (p : Int)) := k0.cell 4
  have c5 : w0.cell? ⟨P, 5, none⟩ = some (.int .i64 0) := k0.cell 5
  have r0 : w0.cell? ⟨P + 1, 0, none⟩ = some (.bool false) := k1.cell 0
  have r1 : w0.cell? ⟨P + 1, 1, none⟩ = some (.int .i64 0) := k1.cell 1
  have r2 : w0.cell? ⟨P + 1, 2, none⟩ = some (.slice none 0 0) := k1.cell 2
  have r3 : w0.cell? ⟨P + 1, 3, none⟩ = some (.slice none 0 0) := k1.cell 3
  have r4 : w0.cell? ⟨P + 1, 4, none⟩ = some (.int .i64 0) := k1.cell 4
  have r5 : w0.cell? ⟨P + 1, 5, none⟩ = some (.int .i64 0) := k1.cell 5
  have s0 : w0.frozen? ⟨P + 1, 0, none⟩ = false := k1.froz 0
  have s1 : w0.frozen? ⟨P + 1, 1, none⟩ = false := k1.froz 1
  have s2 : w0.frozen? ⟨P + 1, 2, none⟩ = false := k1.froz 2
  have s3 : w0.frozen? ⟨P + 1, 3, none⟩ = false := k1.froz 3
  have s4 : w0.frozen? ⟨P + 1, 4, none⟩ = false := k1.froz 4
  have s5 : w0.frozen? ⟨P + 1, 5, none⟩ = false := k1.froz 5
  have f3 : w0.frozen? ⟨P, 3, none⟩ = false := k0.froz 3
  have f4 : w0.frozen? ⟨P, 4, none⟩ = false := k0.froz 4
  have f5 : w0.frozen? ⟨P, 5, none⟩ = false := k0.froz 5
  have hno : ao = none → tn = 0 := fun h => by have := owns_none hown h; omega
  have HNO := Lib.hid hno
  obtain ⟨W1, hW1⟩ : ∃ W1, W1 = w0.setCell ⟨P, 4, none⟩ (.int .i64 ((p : Int) + 1)) := ⟨_, rfl⟩
  have HI1 := Lib.hid (HI.out.next hP hW1)
  have HZ1 := Lib.hid (show P + 2 = W1.heap.size by rw [hW1]; simp [World.setCell, hs0])
  have HW1 := Lib.hid hW1
  clear hat hown hb0 k0 k1 hw0 hno hW1
  have hw1 : IntKind.i64.wrap ((p : Int) + 1) = (p : Int) + 1 := IntWalk.i64_in _ (by omega)
  have hlt : p < n := by rw [← hn]; exact hlt0
  obtain ⟨b, o, rfl, hc⟩ := hat0 p hlt0
  obtain ⟨x, hx⟩ : ∃ x, x = l.getD p 0 := ⟨_, rfl⟩
  rw [← hx] at hc
  have HX := Lib.hid hx
  have HLT := Lib.hid hlt0
  have d1 : decide ((p : Int) < (n : Int)) = true := decide_eq_true (by omega)
  have hi0 : (0 : Int) ≤ (p : Int) := by omega
  have hi1 : (p : Int) < (n : Int) := by omega
  rw [← hx] at hx0 hxm
  have d2 : decide (x < 0) = false := decide_eq_false hx0
  have d3 : decide (m < x) = true := decide_eq_true hxm
  have hch : ch l false m ⟨t, p, 0⟩ = (⟨t, p, 1⟩, 0) := by unfold ch; rw [if_neg (by simp), if_pos HLT.out, ← hx, if_pos (.inr hxm)]
  clear hn htn hx hlt0 hat0
  have HCH := Lib.hid hch
  clear hch
  go_enter Tryz.func66, Tryz.ntmps66
  go_upto_region 1 with fail
  rw [← HW0.out]
  go_wp2_with fail
  refine bodyPost_ret (v := .tuple #[playV z ao tn c (p : Int) 1, .int .i64 0]) (by simp [results, Tryz.results66, go_sem, r0, r1, r2, r3, r4, r5]) rfl ⟨?_, ao, c, ?_, ?_⟩
  · have hPe := HPP.out
    iterate 7 (refine Below.setCell ?_ (by first | (show w.heap.size ≤ P; omega) | (show w.heap.size ≤ P + 1; omega)) _)
    exact HI.out.below
  · rw [HCH.out]
    simp only [HTN.out]
  · rw [HCH.out]
    simp only
    refine owns_same HI.out.row fun q hq => ?_
    have hn1 : q ≠ P := owns_far HI.out.row HI.out.play (by decide) q hq
    have hn2 : q ≠ P + 1 := owns_far HI.out.row HI.out.res (by decide) q hq
    iterate 7 (rw [Below.heap_setCell _ _ _ _ (by first | exact hn1 | exact hn2)])
set_option maxRecDepth 100000 in
set_option maxHeartbeats 2000000 in
theorem choice_right (l : List Int) (lo : Option Addr) (lc : Nat) (m : Int) (_hm0 : 0 ≤ m) (_hm1 : m ≤ 1000) (z : Int) (ao : Option Addr) (c : Nat) (t : List Int) (p : Nat) (B0 : Nat) (ht : t.length ≤ 1000) (hp : p ≤ 1000) (_hl : l.length ≤ 1200000) (w : World) (hB0 : B0 ≤ w.heap.size)
    (hat : IntsAt .i64 w lo l) (hown : w.ownsRow B0 3 1 (.slice ao t.length c) t.length (t.map (.int .i64))) (hlt0 : p < l.length) (hx0 : ¬ l.getD p 0 < 0) (hxm : ¬ m < l.getD p 0) :
    Calls Tryz.prog 66 #[playV z ao t.length c p 0, .slice lo l.length lc, .bool false, .int .i64 m] w (ChoicePost B0 z (ch l false m ⟨t, p, 0⟩) w) := by
  obtain ⟨i1, hj1, hy0, hy1, hy2⟩ := info_parts infoI3d
  obtain ⟨w0, hw0⟩ : ∃ w0, w0 = (w.alloc (.cells (playC z ao t.length c p 0) 79)).alloc (.cells (playC 0 none 0 0 0 0) 79) := ⟨_, rfl⟩
  have hb0 : Below w.heap.size w w0 := by rw [hw0]; exact ((Below.refl w.heap.size w).alloc (Nat.le_refl _) _).alloc (by simp) _
  obtain ⟨P, hP⟩ : ∃ P, w.heap.size = P := ⟨_, rfl⟩
  have hs0 : w0.heap.size = P + 2 := by rw [hw0, ← hP]; simp
  have k0 : Blk w0 P 79 (playC z ao t.length c p 0) := by rw [hw0, ← hP]; exact (Blk.new _ _ _).alloc _
  have k1 : Blk w0 (P + 1) 79 (playC 0 none 0 0 0 0) := by rw [hw0, ← hP]; have := Blk.new (w.alloc (.cells (playC z ao t.length c p 0) 79)) 79 (playC 0 none 0 0 0 0); simpa using this
  have hat0 := ints_keep hat hb0
  have HI := Lib.hid (show CI w B0 P z ao c t p w0 from ⟨hb0, k0, k1, owns_below hown hb0⟩)
  have HPP := Lib.hid hP
  rw [hP] at hB0
  obtain ⟨n, hn⟩ : ∃ n, l.length = n := ⟨_, rfl⟩
  have HNN := Lib.hid hn
  obtain ⟨tn, htn⟩ : ∃ tn, t.length = tn := ⟨_, rfl⟩
  have HTN := Lib.hid htn
  rw [hn] at _hl ⊢
  rw [htn] at ht hw0 ⊢
  simp only [playC] at hw0
  have HW0 := Lib.hid hw0
  have c3 : w0.cell? ⟨P, 3, none⟩ = some (.slice ao tn c) := by rw [← htn]; exact k0.cell 3
  have c0 : w0.cell? ⟨P, 0, none⟩ = some (.bool false) := k0.cell 0
  have c1 : w0.cell? ⟨P, 1, none⟩ = some (.int .i64 z) := k0.cell 1
  have c2 : w0.cell? ⟨P, 2, none⟩ = some (.slice none 0 0) := k0.cell 2
  have c4 : w0.cell? ⟨P, 4, none⟩ = some (.int .i64 (p : Int)) := k0.cell 4
  have c5 : w0.cell? ⟨P, 5, none⟩ = some (.int .i64 0) := k0.cell 5
  have r0 : w0.cell? ⟨P + 1, 0, none⟩ = some (.bool false) := k1.cell 0
  have r1 : w0.cell? ⟨P + 1, 1, none⟩ = some (.int .i64 0) := k1.cell 1
  have r2 : w0.cell? ⟨P + 1, 2, none⟩ = some (.slice none 0 0) := k1.cell 2
  have r3 : w0.cell? ⟨P + 1, 3, none⟩ = some (.slice none 0 0) := k1.cell 3
  have r4 : w0.cell? ⟨P + 1, 4, none⟩ = some (.int .i64 0) := k1.cell 4
  have r5 : w0.cell? ⟨P + 1, 5, none⟩ = some (.int .i64 0) := k1.cell 5
  have s0 : w0.frozen? ⟨P + 1, 0, none⟩ = false := k1.froz 0
  have s1 : w0.frozen? ⟨P + 1, 1, none⟩ = false := k1.froz 1
  have s2 : w0.frozen? ⟨P + 1, 2, none⟩ = false := k1.froz 2
  have s3 : w0.frozen? ⟨P + 1, 3, none⟩ = false := k1.froz 3
  have s4 : w0.frozen? ⟨P + 1, 4, none⟩ = false := k1.froz 4
  have s5 : w0.frozen? ⟨P + 1, 5, none⟩ = false := k1.froz 5
  have f3 : w0.frozen? ⟨P, 3, none⟩ = false := k0.froz 3
  have f4 : w0.frozen? ⟨P, 4, none⟩ = false := k0.froz 4
  have f5 : w0.frozen? ⟨P, 5, none⟩ = false := k0.froz 5
  have hno : ao = none → tn = 0 := fun h => by have := owns_none hown h; omega
  have HNO := Lib.hid hno
  obtain ⟨W1, hW1⟩ : ∃ W1, W1 = w0.setCell ⟨P, 4, none⟩ (.int .i64 ((p : Int) + 1)) := ⟨_, rfl⟩
  have HI1 := Lib.hid (HI.out.next hP hW1)
  have HZ1 := Lib.hid (show P + 2 = W1.heap.size by rw [hW1]; simp [World.setCell, hs0])
  have HW1 := Lib.hid hW1
  clear hat hown hb0 k0 k1 hw0 hno hW1
  have hw1 : IntKind.i64.wrap ((p : Int) + 1) = (p : Int) + 1 := IntWalk.i64_in _ (by omega)
  have hlt : p < n := by rw [← hn]; exact hlt0
  obtain ⟨b, o, rfl, hc⟩ := hat0 p hlt0
  obtain ⟨x, hx⟩ : ∃ x, x = l.getD p 0 := ⟨_, rfl⟩
  rw [← hx] at hc
  have HX := Lib.hid hx
  have HLT := Lib.hid hlt0
  have d1 : decide ((p : Int) < (n : Int)) = true := decide_eq_true (by omega)
  have hi0 : (0 : Int) ≤ (p : Int) := by omega
  have hi1 : (p : Int) < (n : Int) := by omega
  rw [← hx] at hx0 hxm
  have d2 : decide (x < 0) = false := decide_eq_false hx0
  have d3 : decide (m < x) = false := decide_eq_false hxm
  have hch : ch l false m ⟨t, p, 0⟩ = (⟨t ++ [x], p + 1, 0⟩, x) := by unfold ch; rw [if_neg (by simp), if_pos HLT.out, ← hx, if_neg (by omega)]
  clear hn htn hx hlt0 hat0
  have HCH := Lib.hid hch
  clear hch
  go_enter Tryz.func66, Tryz.ntmps66
  go_upto_region 1 with fail
  rw [← HW0.out]
  go_wp2_with (at_builtin; rw [← HW1.out]; refine wpList_append_any _ rfl _ _ 48 rfl (P + 2) 3 i1 (.int .i64 0) 1 8 Tryz.underlying48 hj1 hy0 hy1 hy2 rfl (by decide) (P + 2) 0 0 [] rfl (owns_empty (Nat.le_refl _) (heap_alloc_at _ _ HZ1.out)) ao tn c (t.map (Value.int .i64)) rfl (by simp [HTN.out]) HNO.out (ints_news ((IntsAt.of_owns HI1.out.row).below (Nat.le_refl _) ((Below.refl _ _).alloc (Nat.le_refl _) _))) (ints1 _ _) (by unfold maxLen; omega) (by omega) (by simp [← HZ1.out]) _ rfl ?_)
  intro g cap w7 hown hgr hg7 hlt
  have hb7 : Below W1.heap.size W1 w7 := ((Below.refl W1.heap.size W1).alloc (Nat.le_refl _) (.cells #[] 3)).grown hgr (by simp) (fun q hq => by cases hq; rw [← HZ1.out]; exact Nat.le_refl _)
  have H7 := Lib.hid (And.intro hown hb7)
  clear hown hgr hg7 hlt hb7
  try simp only [Nat.zero_add, List.nil_append] at H7
  have hz7 : P + 2 ≤ w7.heap.size := by have := H7.out.2.size; rw [← HZ1.out] at this; exact this
  go_wp2_with (at_builtin; refine wpList_push2 _ rfl _ _ 48 rfl (P + 2) 3 i1 (.int .i64 0) 1 8 Tryz.underlying48 hj1 hy0 hy1 hy2 rfl (by decide) _ _ _ rfl (H7.out.1.alloc _) ⟨w7.heap.size, 0, none⟩ 1 [.int .i64 x] rfl rfl (World.news_of_block (cs := #[.int .i64 x]) (t := 3) (fr := (0, 0)) (heap_alloc_at _ _ rfl)) (one1 _ _) (by unfold maxLen; omega) (by omega) (by simp; omega) ?_)
  intro g2 cap2 w8 hown8 hgr8 hat8
  have hb8 : Below W1.heap.size W1 w8 := (H7.out.2.alloc H7.out.2.size (.cells #[.int .i64 x] 3)).grown hgr8 (Nat.le_trans H7.out.2.size (by simp)) (fun q hq => by cases hq; rw [← HZ1.out]; exact (H7.out.1.lt g rfl).1)
  have HI8 := Lib.hid (HI1.out.on hb8)
  have k0 := HI8.out.play
  have k1 := HI8.out.res
  rw [HTN.out] at k0
  have e0 : w8.cell? ⟨P, 0, none⟩ = some (.bool false) := k0.cell 0
  have e1 : w8.cell? ⟨P, 1, none⟩ = some (.int .i64 z) := k0.cell 1
  have e2 : w8.cell? ⟨P, 2, none⟩ = some (.slice none 0 0) := k0.cell 2
  have e3 : w8.cell? ⟨P, 3, none⟩ = some (.slice ao tn c) := k0.cell 3
  have e4 : w8.cell? ⟨P, 4, none⟩ = some (.int .i64 ((p : Int) + 1)) := k0.cell 4
  have e5 : w8.cell? ⟨P, 5, none⟩ = some (.int .i64 0) := k0.cell 5
  have ef3 : w8.frozen? ⟨P, 3, none⟩ = false := k0.froz 3
  have d0' : w8.cell? ⟨P + 1, 0, none⟩ = some (.bool false) := k1.cell 0
  have d1' : w8.cell? ⟨P + 1, 1, none⟩ = some (.int .i64 0) := k1.cell 1
  have d2' : w8.cell? ⟨P + 1, 2, none⟩ = some (.slice none 0 0) := k1.cell 2
  have d3' : w8.cell? ⟨P + 1, 3, none⟩ = some (.slice none 0 0) := k1.cell 3
  have d4' : w8.cell? ⟨P + 1, 4, none⟩ = some (.int .i64 0) := k1.cell 4
  have d5' : w8.cell? ⟨P + 1, 5, none⟩ = some (.int .i64 0) := k1.cell 5
  have df0 : w8.frozen? ⟨P + 1, 0, none⟩ = false := k1.froz 0
  have df1 : w8.frozen? ⟨P + 1, 1, none⟩ = false := k1.froz 1
  have df2 : w8.frozen? ⟨P + 1, 2, none⟩ = false := k1.froz 2
  have df3 : w8.frozen? ⟨P + 1, 3, none⟩ = false := k1.froz 3
  have df4 : w8.frozen? ⟨P + 1, 4, none⟩ = false := k1.froz 4
  have df5 : w8.frozen? ⟨P + 1, 5, none⟩ = false := k1.froz 5
  have HF1 := Lib.hid (owns_far hown8 k0 (by decide))
  have HF2 := Lib.hid (owns_far hown8 k1 (by decide))
  have HO := Lib.hid hown8
  clear hown8 hgr8 hat8 hb8 k0 k1
  go_wp2_with fail
  refine bodyPost_ret (v := .tuple #[playV z (some ⟨g2, 0, none⟩) (tn + 1) cap2 ((p : Int) + 1) 0, .int .i64 x]) (by simp [results, Tryz.results66, go_sem, d0', d1', d2', d3', d4', d5']) rfl ⟨?_, some ⟨g2, 0, none⟩, cap2, ?_, ?_⟩
  · have hPe := HPP.out
    iterate 7 (refine Below.setCell ?_ (by first | (show w.heap.size ≤ P; omega) | (show w.heap.size ≤ P + 1; omega)) _)
    exact HI8.out.below
  · rw [HCH.out]
    simp only [List.length_append, HTN.out, List.length_cons, List.length_nil]
    rfl
  · rw [HCH.out]
    simp only [List.length_append, HTN.out, List.length_cons, List.length_nil, List.map_append, List.map_cons, List.map_nil]
    refine owns_same (HO.out.mono (by omega)) fun q hq => ?_
    have hn1 : q ≠ P := HF1.out q hq
    have hn2 : q ≠ P + 1 := HF2.out q hq
    iterate 7 (rw [Below.heap_setCell _ _ _ _ (by first | exact hn1 | exact hn2)])
set_option maxRecDepth 100000 in
set_option maxHeartbeats 2000000 in
theorem choice_past (l : List Int) (lo : Option Addr) (lc : Nat) (m : Int) (hm0 : 0 ≤ m) (_hm1 : m ≤ 1000) (z : Int) (ao : Option Addr) (c : Nat) (t : List Int) (p : Nat) (B0 : Nat) (ht : t.length ≤ 1000) (hp : p ≤ 1000) (_hl : l.length ≤ 1200000) (w : World) (hB0 : B0 ≤ w.heap.size)
    (hat : IntsAt .i64 w lo l) (hown : w.ownsRow B0 3 1 (.slice ao t.length c) t.length (t.map (.int .i64))) (hge0 : ¬ p < l.length) :
    Calls Tryz.prog 66 #[playV z ao t.length c p 0, .slice lo l.length lc, .bool true, .int .i64 m] w (ChoicePost B0 z (ch l true m ⟨t, p, 0⟩) w) := by
  obtain ⟨i1, hj1, hy0, hy1, hy2⟩ := info_parts infoI3d
  obtain ⟨w0, hw0⟩ : ∃ w0, w0 = (w.alloc (.cells (playC z ao t.length c p 0) 79)).alloc (.cells (playC 0 none 0 0 0 0) 79) := ⟨_, rfl⟩
  have hb0 : Below w.heap.size w w0 := by rw [hw0]; exact ((Below.refl w.heap.size w).alloc (Nat.le_refl _) _).alloc (by simp) _
  obtain ⟨P, hP⟩ : ∃ P, w.heap.size = P := ⟨_, rfl⟩
  have hs0 : w0.heap.size = P + 2 := by rw [hw0, ← hP]; simp
  have k0 : Blk w0 P 79 (playC z ao t.length c p 0) := by rw [hw0, ← hP]; exact (Blk.new _ _ _).alloc _
  have k1 : Blk w0 (P + 1) 79 (playC 0 none 0 0 0 0) := by rw [hw0, ← hP]; have := Blk.new (w.alloc (.cells (playC z ao t.length c p 0) 79)) 79 (playC 0 none 0 0 0 0); simpa using this
  have hat0 := ints_keep hat hb0
  have HI := Lib.hid (show CI w B0 P z ao c t p w0 from ⟨hb0, k0, k1, owns_below hown hb0⟩)
  have HPP := Lib.hid hP
  rw [hP] at hB0
  obtain ⟨n, hn⟩ : ∃ n, l.length = n := ⟨_, rfl⟩
  have HNN := Lib.hid hn
  obtain ⟨tn, htn⟩ : ∃ tn, t.length = tn := ⟨_, rfl⟩
  have HTN := Lib.hid htn
  rw [hn] at _hl ⊢
  rw [htn] at ht hw0 ⊢
  simp only [playC] at hw0
  have HW0 := Lib.hid hw0
  have c3 : w0.cell? ⟨P, 3, none⟩ = some (.slice ao tn c) := by rw [← htn]; exact k0.cell 3
  have c0 : w0.cell? ⟨P, 0, none⟩ = some (.bool false) := k0.cell 0
  have c1 : w0.cell? ⟨P, 1, none⟩ = some (.int .i64 z) := k0.cell 1
  have c2 : w0.cell? ⟨P, 2, none⟩ = some (.slice none 0 0) := k0.cell 2
  have c4 : w0.cell? ⟨P, 4, none⟩ = some (.int .i64 (p : Int)) := k0.cell 4
  have c5 : w0.cell? ⟨P, 5, none⟩ = some (.int .i64 0) := k0.cell 5
  have r0 : w0.cell? ⟨P + 1, 0, none⟩ = some (.bool false) := k1.cell 0
  have r1 : w0.cell? ⟨P + 1, 1, none⟩ = some (.int .i64 0) := k1.cell 1
  have r2 : w0.cell? ⟨P + 1, 2, none⟩ = some (.slice none 0 0) := k1.cell 2
  have r3 : w0.cell? ⟨P + 1, 3, none⟩ = some (.slice none 0 0) := k1.cell 3
  have r4 : w0.cell? ⟨P + 1, 4, none⟩ = some (.int .i64 0) := k1.cell 4
  have r5 : w0.cell? ⟨P + 1, 5, none⟩ = some (.int .i64 0) := k1.cell 5
  have s0 : w0.frozen? ⟨P + 1, 0, none⟩ = false := k1.froz 0
  have s1 : w0.frozen? ⟨P + 1, 1, none⟩ = false := k1.froz 1
  have s2 : w0.frozen? ⟨P + 1, 2, none⟩ = false := k1.froz 2
  have s3 : w0.frozen? ⟨P + 1, 3, none⟩ = false := k1.froz 3
  have s4 : w0.frozen? ⟨P + 1, 4, none⟩ = false := k1.froz 4
  have s5 : w0.frozen? ⟨P + 1, 5, none⟩ = false := k1.froz 5
  have f3 : w0.frozen? ⟨P, 3, none⟩ = false := k0.froz 3
  have f4 : w0.frozen? ⟨P, 4, none⟩ = false := k0.froz 4
  have f5 : w0.frozen? ⟨P, 5, none⟩ = false := k0.froz 5
  have hno : ao = none → tn = 0 := fun h => by have := owns_none hown h; omega
  have HNO := Lib.hid hno
  obtain ⟨W1, hW1⟩ : ∃ W1, W1 = w0.setCell ⟨P, 4, none⟩ (.int .i64 ((p : Int) + 1)) := ⟨_, rfl⟩
  have HI1 := Lib.hid (HI.out.next hP hW1)
  have HZ1 := Lib.hid (show P + 2 = W1.heap.size by rw [hW1]; simp [World.setCell, hs0])
  have HW1 := Lib.hid hW1
  clear hat hown hb0 k0 k1 hw0 hno hW1
  have hw1 : IntKind.i64.wrap ((p : Int) + 1) = (p : Int) + 1 := IntWalk.i64_in _ (by omega)
  have hge : ¬ p < n := by rw [← hn]; exact hge0
  have hge2 : n ≤ p := by omega
  have d1 : decide ((p : Int) < (n : Int)) = false := decide_eq_false (by omega)
  have HGE := Lib.hid hge0
  obtain ⟨y, hy⟩ : ∃ y, y = clamp m 0 := ⟨_, rfl⟩
  have hyb := clamp_in 0 hm0
  rw [← hy] at hyb
  have hch : ch l true m ⟨t, p, 0⟩ = (⟨t ++ [y], p + 1, 0⟩, y) := by unfold ch; rw [if_pos rfl]; simp only; rw [show l.getD p 0 = 0 by simp [List.getD, List.getElem?_eq_none (Nat.le_of_not_lt HGE.out)], ← hy]
  have hmx : max 0 (min 0 m) = y := hy.symm
  have d2 : decide (y < 0) = false := decide_eq_false (by omega)
  have d3 : decide (m < y) = false := decide_eq_false (by omega)
  clear hy hn htn hge0 hat0
  have HCH := Lib.hid hch
  clear hch
  go_enter Tryz.func66, Tryz.ntmps66
  go_upto_region 1 with fail
  rw [← HW0.out]
  go_wp2_with (at_builtin; rw [← HW1.out]; refine wpList_append_any _ rfl _ _ 48 rfl (P + 2) 3 i1 (.int .i64 0) 1 8 Tryz.underlying48 hj1 hy0 hy1 hy2 rfl (by decide) (P + 2) 0 0 [] rfl (owns_empty (Nat.le_refl _) (heap_alloc_at _ _ HZ1.out)) ao tn c (t.map (Value.int .i64)) rfl (by simp [HTN.out]) HNO.out (ints_news ((IntsAt.of_owns HI1.out.row).below (Nat.le_refl _) ((Below.refl _ _).alloc (Nat.le_refl _) _))) (ints1 _ _) (by unfold maxLen; omega) (by omega) (by simp [← HZ1.out]) _ rfl ?_)
  intro g cap w7 hown hgr hg7 hlt
  have hb7 : Below W1.heap.size W1 w7 := ((Below.refl W1.heap.size W1).alloc (Nat.le_refl _) (.cells #[] 3)).grown hgr (by simp) (fun q hq => by cases hq; rw [← HZ1.out]; exact Nat.le_refl _)
  have H7 := Lib.hid (And.intro hown hb7)
  clear hown hgr hg7 hlt hb7
  try simp only [Nat.zero_add, List.nil_append] at H7
  have hz7 : P + 2 ≤ w7.heap.size := by have := H7.out.2.size; rw [← HZ1.out] at this; exact this
  go_wp2_with (at_builtin; refine wpList_push2 _ rfl _ _ 48 rfl (P + 2) 3 i1 (.int .i64 0) 1 8 Tryz.underlying48 hj1 hy0 hy1 hy2 rfl (by decide) _ _ _ rfl (H7.out.1.alloc _) ⟨w7.heap.size, 0, none⟩ 1 [.int .i64 y] rfl rfl (World.news_of_block (cs := #[.int .i64 y]) (t := 3) (fr := (0, 0)) (heap_alloc_at _ _ rfl)) (one1 _ _) (by unfold maxLen; omega) (by omega) (by simp; omega) ?_)
  intro g2 cap2 w8 hown8 hgr8 hat8
  have hb8 : Below W1.heap.size W1 w8 := (H7.out.2.alloc H7.out.2.size (.cells #[.int .i64 y] 3)).grown hgr8 (Nat.le_trans H7.out.2.size (by simp)) (fun q hq => by cases hq; rw [← HZ1.out]; exact (H7.out.1.lt g rfl).1)
  have HI8 := Lib.hid (HI1.out.on hb8)
  have k0 := HI8.out.play
  have k1 := HI8.out.res
  rw [HTN.out] at k0
  have e0 : w8.cell? ⟨P, 0, none⟩ = some (.bool false) := k0.cell 0
  have e1 : w8.cell? ⟨P, 1, none⟩ = some (.int .i64 z) := k0.cell 1
  have e2 : w8.cell? ⟨P, 2, none⟩ = some (.slice none 0 0) := k0.cell 2
  have e3 : w8.cell? ⟨P, 3, none⟩ = some (.slice ao tn c) := k0.cell 3
  have e4 : w8.cell? ⟨P, 4, none⟩ = some (.int .i64 ((p : Int) + 1)) := k0.cell 4
  have e5 : w8.cell? ⟨P, 5, none⟩ = some (.int .i64 0) := k0.cell 5
  have ef3 : w8.frozen? ⟨P, 3, none⟩ = false := k0.froz 3
  have d0' : w8.cell? ⟨P + 1, 0, none⟩ = some (.bool false) := k1.cell 0
  have d1' : w8.cell? ⟨P + 1, 1, none⟩ = some (.int .i64 0) := k1.cell 1
  have d2' : w8.cell? ⟨P + 1, 2, none⟩ = some (.slice none 0 0) := k1.cell 2
  have d3' : w8.cell? ⟨P + 1, 3, none⟩ = some (.slice none 0 0) := k1.cell 3
  have d4' : w8.cell? ⟨P + 1, 4, none⟩ = some (.int .i64 0) := k1.cell 4
  have d5' : w8.cell? ⟨P + 1, 5, none⟩ = some (.int .i64 0) := k1.cell 5
  have df0 : w8.frozen? ⟨P + 1, 0, none⟩ = false := k1.froz 0
  have df1 : w8.frozen? ⟨P + 1, 1, none⟩ = false := k1.froz 1
  have df2 : w8.frozen? ⟨P + 1, 2, none⟩ = false := k1.froz 2
  have df3 : w8.frozen? ⟨P + 1, 3, none⟩ = false := k1.froz 3
  have df4 : w8.frozen? ⟨P + 1, 4, none⟩ = false := k1.froz 4
  have df5 : w8.frozen? ⟨P + 1, 5, none⟩ = false := k1.froz 5
  have HF1 := Lib.hid (owns_far hown8 k0 (by decide))
  have HF2 := Lib.hid (owns_far hown8 k1 (by decide))
  have HO := Lib.hid hown8
  clear hown8 hgr8 hat8 hb8 k0 k1
  go_wp2_with fail
  refine bodyPost_ret (v := .tuple #[playV z (some ⟨g2, 0, none⟩) (tn + 1) cap2 ((p : Int) + 1) 0, .int .i64 y]) (by simp [results, Tryz.results66, go_sem, d0', d1', d2', d3', d4', d5']) rfl ⟨?_, some ⟨g2, 0, none⟩, cap2, ?_, ?_⟩
  · have hPe := HPP.out
    iterate 7 (refine Below.setCell ?_ (by first | (show w.heap.size ≤ P; omega) | (show w.heap.size ≤ P + 1; omega)) _)
    exact HI8.out.below
  · rw [HCH.out]
    simp only [List.length_append, HTN.out, List.length_cons, List.length_nil]
    rfl
  · rw [HCH.out]
    simp only [List.length_append, HTN.out, List.length_cons, List.length_nil, List.map_append, List.map_cons, List.map_nil]
    refine owns_same (HO.out.mono (by omega)) fun q hq => ?_
    have hn1 : q ≠ P := HF1.out q hq
    have hn2 : q ≠ P + 1 := HF2.out q hq
    iterate 7 (rw [Below.heap_setCell _ _ _ _ (by first | exact hn1 | exact hn2)])
set_option maxRecDepth 100000 in
set_option maxHeartbeats 2000000 in
theorem choice_short (l : List Int) (lo : Option Addr) (lc : Nat) (m : Int) (_hm0 : 0 ≤ m) (_hm1 : m ≤ 1000) (z : Int) (ao : Option Addr) (c : Nat) (t : List Int) (p : Nat) (B0 : Nat) (_ht : t.length ≤ 1000) (hp : p ≤ 1000) (_hl : l.length ≤ 1200000) (w : World) (_hB0 : B0 ≤ w.heap.size)
    (hat : IntsAt .i64 w lo l) (hown : w.ownsRow B0 3 1 (.slice ao t.length c) t.length (t.map (.int .i64))) (hge0 : ¬ p < l.length) :
    Calls Tryz.prog 66 #[playV z ao t.length c p 0, .slice lo l.length lc, .bool false, .int .i64 m] w (ChoicePost B0 z (ch l false m ⟨t, p, 0⟩) w) := by
  obtain ⟨i1, hj1, hy0, hy1, hy2⟩ := info_parts infoI3d
  obtain ⟨w0, hw0⟩ : ∃ w0, w0 = (w.alloc (.cells (playC z ao t.length c p 0) 79)).alloc (.cells (playC 0 none 0 0 0 0) 79) := ⟨_, rfl⟩
  have hb0 : Below w.heap.size w w0 := by rw [hw0]; exact ((Below.refl w.heap.size w).alloc (Nat.le_refl _) _).alloc (by simp) _
  obtain ⟨P, hP⟩ : ∃ P, w.heap.size = P := ⟨_, rfl⟩
  have hs0 : w0.heap.size = P + 2 := by rw [hw0, ← hP]; simp
  have k0 : Blk w0 P 79 (playC z ao t.length c p 0) := by rw [hw0, ← hP]; exact (Blk.new _ _ _).alloc _
  have k1 : Blk w0 (P + 1) 79 (playC 0 none 0 0 0 0) := by rw [hw0, ← hP]; have := Blk.new (w.alloc (.cells (playC z ao t.length c p 0) 79)) 79 (playC 0 none 0 0 0 0); simpa using this
  have hat0 := ints_keep hat hb0
  have HI := Lib.hid (show CI w B0 P z ao c t p w0 from ⟨hb0, k0, k1, owns_below hown hb0⟩)
  have HPP := Lib.hid hP
  rw [hP] at _hB0
  obtain ⟨n, hn⟩ : ∃ n, l.length = n := ⟨_, rfl⟩
  have HNN := Lib.hid hn
  obtain ⟨tn, htn⟩ : ∃ tn, t.length = tn := ⟨_, rfl⟩
  have HTN := Lib.hid htn
  rw [hn] at _hl ⊢
  rw [htn] at _ht hw0 ⊢
  simp only [playC] at hw0
  have HW0 := Lib.hid hw0
  have c3 : w0.cell? ⟨P, 3, none⟩ = some (.slice ao tn c) := by rw [← htn]; exact k0.cell 3
  have c0 : w0.cell? ⟨P, 0, none⟩ = some (.bool false) := k0.cell 0
  have c1 : w0.cell? ⟨P, 1, none⟩ = some (.int .i64 z) := k0.cell 1
  have c2 : w0.cell? ⟨P, 2, none⟩ = some (.slice none 0 0) := k0.cell 2
  have c4 : w0.cell? ⟨P, 4, none⟩ = some (.int .i64 (p : Int)) := k0.cell 4
  have c5 : w0.cell? ⟨P, 5, none⟩ = some (.int .i64 0) := k0.cell 5
  have r0 : w0.cell? ⟨P + 1, 0, none⟩ = some (.bool false) := k1.cell 0
  have r1 : w0.cell? ⟨P + 1, 1, none⟩ = some (.int .i64 0) := k1.cell 1
  have r2 : w0.cell? ⟨P + 1, 2, none⟩ = some (.slice none 0 0) := k1.cell 2
  have r3 : w0.cell? ⟨P + 1, 3, none⟩ = some (.slice none 0 0) := k1.cell 3
  have r4 : w0.cell? ⟨P + 1, 4, none⟩ = some (.int .i64 0) := k1.cell 4
  have r5 : w0.cell? ⟨P + 1, 5, none⟩ = some (.int .i64 0) := k1.cell 5
  have s0 : w0.frozen? ⟨P + 1, 0, none⟩ = false := k1.froz 0
  have s1 : w0.frozen? ⟨P + 1, 1, none⟩ = false := k1.froz 1
  have s2 : w0.frozen? ⟨P + 1, 2, none⟩ = false := k1.froz 2
  have s3 : w0.frozen? ⟨P + 1, 3, none⟩ = false := k1.froz 3
  have s4 : w0.frozen? ⟨P + 1, 4, none⟩ = false := k1.froz 4
  have s5 : w0.frozen? ⟨P + 1, 5, none⟩ = false := k1.froz 5
  have f3 : w0.frozen? ⟨P, 3, none⟩ = false := k0.froz 3
  have f4 : w0.frozen? ⟨P, 4, none⟩ = false := k0.froz 4
  have f5 : w0.frozen? ⟨P, 5, none⟩ = false := k0.froz 5
  have hno : ao = none → tn = 0 := fun h => by have := owns_none hown h; omega
  have HNO := Lib.hid hno
  obtain ⟨W1, hW1⟩ : ∃ W1, W1 = w0.setCell ⟨P, 4, none⟩ (.int .i64 ((p : Int) + 1)) := ⟨_, rfl⟩
  have HI1 := Lib.hid (HI.out.next hP hW1)
  have HZ1 := Lib.hid (show P + 2 = W1.heap.size by rw [hW1]; simp [World.setCell, hs0])
  have HW1 := Lib.hid hW1
  clear hat hown hb0 k0 k1 hw0 hno hW1
  have hw1 : IntKind.i64.wrap ((p : Int) + 1) = (p : Int) + 1 := IntWalk.i64_in _ (by omega)
  have hge : ¬ p < n := by rw [← hn]; exact hge0
  have hge2 : n ≤ p := by omega
  have d1 : decide ((p : Int) < (n : Int)) = false := decide_eq_false (by omega)
  have HGE := Lib.hid hge0
  have hch : ch l false m ⟨t, p, 0⟩ = (⟨t, p, 5⟩, 0) := by unfold ch; rw [if_neg (by simp), if_neg HGE.out]
  clear hn htn hge0 hat0
  have HCH := Lib.hid hch
  clear hch
  go_enter Tryz.func66, Tryz.ntmps66
  go_upto_region 1 with fail
  rw [← HW0.out]
  go_wp2_with fail
  refine bodyPost_ret (v := .tuple #[playV z ao tn c (p : Int) 5, .int .i64 0]) (by simp [results, Tryz.results66, go_sem, r0, r1, r2, r3, r4, r5]) rfl ⟨?_, ao, c, ?_, ?_⟩
  · have hPe := HPP.out
    iterate 7 (refine Below.setCell ?_ (by first | (show w.heap.size ≤ P; omega) | (show w.heap.size ≤ P + 1; omega)) _)
    exact HI.out.below
  · rw [HCH.out]
    simp only [HTN.out]
  · rw [HCH.out]
    simp only
    refine owns_same HI.out.row fun q hq => ?_
    have hn1 : q ≠ P := owns_far HI.out.row HI.out.play (by decide) q hq
    have hn2 : q ≠ P + 1 := owns_far HI.out.row HI.out.res (by decide) q hq
    iterate 7 (rw [Below.heap_setCell _ _ _ _ (by first | exact hn1 | exact hn2)])
theorem choice_any (l : List Int) (lo : Option Addr) (lc : Nat) (md : Bool) (m : Int) (hm0 : 0 ≤ m) (hm1 : m ≤ 1000) (z : Int) (ao : Option Addr) (c : Nat) (t : List Int) (p : Nat) (B0 : Nat) (ht : t.length ≤ 1000) (hp : p ≤ 1000) (hl : l.length ≤ 1200000) (w : World) (hB0 : B0 ≤ w.heap.size)
    (hat : IntsAt .i64 w lo l) (hown : w.ownsRow B0 3 1 (.slice ao t.length c) t.length (t.map (.int .i64))) :
    Calls Tryz.prog 66 #[playV z ao t.length c p 0, .slice lo l.length lc, .bool md, .int .i64 m] w (ChoicePost B0 z (ch l md m ⟨t, p, 0⟩) w) := by
  by_cases hlt : p < l.length
  · cases md with
    | true => exact choice_in l lo lc m hm0 hm1 z ao c t p B0 ht hp hl w hB0 hat hown hlt
    | false =>
      by_cases hx0 : l.getD p 0 < 0
      · exact choice_neg l lo lc m hm0 hm1 z ao c t p B0 ht hp hl w hB0 hat hown hlt hx0
      · by_cases hxm : m < l.getD p 0
        · exact choice_big l lo lc m hm0 hm1 z ao c t p B0 ht hp hl w hB0 hat hown hlt hx0 hxm
        · exact choice_right l lo lc m hm0 hm1 z ao c t p B0 ht hp hl w hB0 hat hown hlt hx0 hxm
  · cases md with
    | true => exact choice_past l lo lc m hm0 hm1 z ao c t p B0 ht hp hl w hB0 hat hown hlt
    | false => exact choice_short l lo lc m hm0 hm1 z ao c t p B0 ht hp hl w hB0 hat hown hlt
end Go.Proofs.YtalbllijahiiiaaGreatDoor
end
