/- assayerref1.Played at an Int. assayerref1.Played at a Many of Ints. -/
import Derived.Test.YtalbllijahiiiaaGreatDoorDkBD
import Derived.Deep.RegionLaw
section
namespace Go.Proofs.YtalbllijahiiiaaGreatDoor
open Go.RowKit Go.Mine Go.Mine.Desk

def PlPost (B0 : Nat) (q : PS × Int) (w : World) (e : Ending) (w' : World) : Prop :=
  Below w.heap.size w w' ∧ ∃ ao c, e = .returned (playV q.2 ao q.1.t.length c q.1.pos q.1.err) ∧ w'.ownsRow B0 3 1 (.slice ao q.1.t.length c) q.1.t.length (q.1.t.map (.int .i64))
set_option maxRecDepth 100000 in
set_option maxHeartbeats 2000000 in
theorem Played_done (a b z : Int) (ao : Option Addr) (n c : Nat) (p : Nat) (e0 : Int) (he : e0 ≠ 0) (lo : Option Addr) (ln lc : Nat) (md : Bool) (w : World) :
    Calls Tryz.prog 30 #[intG a b, playV z ao n c p e0, .slice lo ln lc, .bool md] w fun e w' => e = .returned (playV z ao n c p e0) ∧ Below w.heap.size w w' := by
  have HB := Lib.hid (show Below w.heap.size w (((w.alloc (.cells #[.int .i64 2, .int .i64 a, .int .i64 b, .slice none 0 0] 28)).alloc (.cells (playC z ao n c p e0) 79)).alloc (.cells (playC z ao n c p e0) 79)) from (((Below.refl w.heap.size w).alloc (Nat.le_refl _) _).alloc (by simp) _).alloc (by simp; omega) _)
  have hne : (e0 != 0) = true := by rw [bne_iff_ne]; exact he
  have hn2 : ¬ e0 = 0 := he
  simp only [playV]
  simp only [playC] at HB
  clear he
  go_enter Tryz.func30, Tryz.ntmps30
  go_wp2_with fail
  refine bodyPost_ret (v := playV z ao n c p e0) (by simp [results, Tryz.results30, go_sem]) rfl ⟨rfl, ?_⟩
  (repeat (refine Below.setCell ?_ (by simp; omega) _))
  exact HB.out
set_option maxRecDepth 100000 in
set_option maxHeartbeats 4000000 in
theorem Played_int (a b : Int) (ha : near a) (hab : a ≤ b) (hba : b - a ≤ 1000) (l : List Int) (lo : Option Addr) (lc : Nat) (md : Bool) (z : Int) (ao : Option Addr) (c : Nat) (t : List Int) (p : Nat) (B0 : Nat) (ht : t.length ≤ 1000) (hp : p ≤ 1000) (hl : l.length ≤ 1200000) (w : World) (hB0 : B0 ≤ w.heap.size)
    (hat : IntsAt .i64 w lo l) (hown : w.ownsRow B0 3 1 (.slice ao t.length c) t.length (t.map (.int .i64))) :
    Calls Tryz.prog 30 #[intG a b, playV z ao t.length c p 0, .slice lo l.length lc, .bool md] w (PlPost B0 (st1 l md a (b - a) (⟨t, p, 0⟩, z)) w) := by
  have hst : st1 l md a (b - a) (⟨t, p, 0⟩, z) = ((ch l md (b - a) ⟨t, p, 0⟩).1, a + (ch l md (b - a) ⟨t, p, 0⟩).2) := by unfold st1; rw [if_pos rfl]
  rw [hst]
  clear hst
  obtain ⟨w0, hw0⟩ : ∃ w0, w0 = ((w.alloc (.cells #[.int .i64 2, .int .i64 a, .int .i64 b, .slice none 0 0] 28)).alloc (.cells (playC z ao t.length c p 0) 79)).alloc (.cells (playC 0 none 0 0 0 0) 79) := ⟨_, rfl⟩
  have hb0 : Below w.heap.size w w0 := by rw [hw0]; exact (((Below.refl w.heap.size w).alloc (Nat.le_refl _) _).alloc (by simp) _).alloc (by simp; omega) _
  obtain ⟨B, hB⟩ : ∃ B, w.heap.size = B := ⟨_, rfl⟩
  have k0 : Blk w0 B 28 #[.int .i64 2, .int .i64 a, .int .i64 b, .slice none 0 0] := by rw [hw0, ← hB]; exact ((Blk.new _ _ _).alloc _).alloc _
  have k1 : Blk w0 (B + 1) 79 (playC z ao t.length c p 0) := by rw [hw0, ← hB]; exact (show Blk ((w.alloc (.cells #[.int .i64 2, .int .i64 a, .int .i64 b, .slice none 0 0] 28)).alloc (.cells (playC z ao t.length c p 0) 79)) (w.heap.size + 1) _ _ by have := Blk.new (w.alloc (.cells #[.int .i64 2, .int .i64 a, .int .i64 b, .slice none 0 0] 28)) 79 (playC z ao t.length c p 0); simpa using this).alloc _
  have k2 : Blk w0 (B + 1 + 1) 79 (playC 0 none 0 0 0 0) := by rw [hw0, ← hB]; have := Blk.new ((w.alloc (.cells #[.int .i64 2, .int .i64 a, .int .i64 b, .slice none 0 0] 28)).alloc (.cells (playC z ao t.length c p 0) 79)) 79 (playC 0 none 0 0 0 0); simpa using this
  have HC := Lib.hid (choice_any l lo lc md (b - a) (by omega) hba z ao c t p B0 ht hp hl w0 (Nat.le_trans hB0 hb0.size) (ints_keep hat hb0) (owns_below hown hb0))
  have hcb := ch_b (l := l) (md := md) (m := b - a) (by omega) ⟨t, p, 0⟩
  have HK := Lib.hid (And.intro hb0 (And.intro k0 (And.intro k1 k2)))
  obtain ⟨tn, htn⟩ : ∃ tn, t.length = tn := ⟨_, rfl⟩
  have HTN := Lib.hid htn
  obtain ⟨ln, hln⟩ : ∃ ln, l.length = ln := ⟨_, rfl⟩
  obtain ⟨q, hq⟩ : ∃ q, ch l md (b - a) ⟨t, p, 0⟩ = q := ⟨_, rfl⟩
  obtain ⟨⟨t', p', e'⟩, x⟩ := q
  rw [hq] at hcb HC ⊢
  rw [htn, hln] at HC
  rw [htn] at hw0 ⊢
  rw [hln]
  simp only [playV] at HC ⊢
  simp only [playC] at hw0
  have HW0 := Lib.hid hw0
  obtain ⟨hx0, hx1, ht1, hp1⟩ := hcb
  simp only at hx0 hx1 ht1 hp1
  have h1 := ha.1
  have h2 := ha.2
  have hwr : IntKind.i64.wrap (b - a) = b - a := IntWalk.i64_in _ (by omega)
  have hax : IntKind.i64.wrap (a + x) = a + x := IntWalk.i64_in _ (by omega)
  have hB1 := Lib.hid hB0
  rw [hw0] at HC
  clear hw0 hb0 k0 k1 k2 hat hown hq htn hln ha
  go_enter Tryz.func30, Tryz.ntmps30
  go_wp2_with fail
  refine HC.out.mono ?_
  clear HC
  rintro e w1 ⟨hb1, ao1, c1, rfl, hown1⟩
  rw [← HW0.out] at hb1
  have k0 := HK.out.2.1.below hb1
  have k1 := HK.out.2.2.1.below hb1
  have k2 := HK.out.2.2.2.below hb1
  have g1 : w1.cell? ⟨B, 1, none⟩ = some (.int .i64 a) := k0.cell 1
  rw [HTN.out] at k1
  have p0 : w1.cell? ⟨B + 1, 0, none⟩ = some (.bool false) := k1.cell 0
  have p1 : w1.cell? ⟨B + 1, 1, none⟩ = some (.int .i64 z) := k1.cell 1
  have p2 : w1.cell? ⟨B + 1, 2, none⟩ = some (.slice none 0 0) := k1.cell 2
  have p3 : w1.cell? ⟨B + 1, 3, none⟩ = some (.slice ao tn c) := k1.cell 3
  have p4 : w1.cell? ⟨B + 1, 4, none⟩ = some (.int .i64 (p : Int)) := k1.cell 4
  have p5 : w1.cell? ⟨B + 1, 5, none⟩ = some (.int .i64 0) := k1.cell 5
  have q0 : w1.frozen? ⟨B + 1, 0, none⟩ = false := k1.froz 0
  have q1 : w1.frozen? ⟨B + 1, 1, none⟩ = false := k1.froz 1
  have q2 : w1.frozen? ⟨B + 1, 2, none⟩ = false := k1.froz 2
  have q3 : w1.frozen? ⟨B + 1, 3, none⟩ = false := k1.froz 3
  have q4 : w1.frozen? ⟨B + 1, 4, none⟩ = false := k1.froz 4
  have q5 : w1.frozen? ⟨B + 1, 5, none⟩ = false := k1.froz 5
  obtain ⟨w2, hw2⟩ : ∃ w2, w2 = (((((((((w1.setCell ⟨B + 1, 0, none⟩ (.bool false)).setCell ⟨B + 1, 1, none⟩ (.int .i64 z)).setCell ⟨B + 1, 2, none⟩ (.slice none 0 0)).setCell ⟨B + 1, 3, none⟩ (.slice ao1 t'.length c1)).setCell ⟨B + 1, 4, none⟩ (.int .i64 (p' : Int))).setCell ⟨B + 1, 5, none⟩ (.int .i64 e')).setCell ⟨B + 1, 0, none⟩ (.bool false)).setCell ⟨B + 1, 1, none⟩ (.int .i64 (a + x))).setCell ⟨B + 1, 2, none⟩ (.slice none 0 0)) := ⟨_, rfl⟩
  have hs2 : ∀ g, g ≠ B + 1 → w2.heap[g]? = w1.heap[g]? := fun g hg => by
    rw [hw2]
    repeat (rw [Below.heap_setCell _ _ _ _ hg])
  have k1' : Blk w2 (B + 1) 79 #[.bool false, .int .i64 (a + x), .slice none 0 0, .slice ao1 t'.length c1, .int .i64 (p' : Int), .int .i64 e'] := by rw [hw2]; simpa using (((((((((k1.set 0 (.bool false)).set 1 (.int .i64 z)).set 2 (.slice none 0 0)).set 3 (.slice ao1 t'.length c1)).set 4 (.int .i64 (p' : Int))).set 5 (.int .i64 e')).set 0 (.bool false)).set 1 (.int .i64 (a + x))).set 2 (.slice none 0 0))
  have k2' : Blk w2 (B + 1 + 1) 79 (playC 0 none 0 0 0 0) := k2.same (hs2 _ (by omega))
  have hb2 : Below w.heap.size w w2 := by
    rw [hw2]
    have h := HK.out.1.trans (hb1.mono HK.out.1.size)
    iterate 9 (refine Below.setCell ?_ (by show w.heap.size ≤ B + 1; omega) _)
    exact h
  have ho2 : w2.ownsRow B0 3 1 (.slice ao1 t'.length c1) t'.length (t'.map (.int .i64)) := owns_same hown1 fun g hg => hs2 g (owns_far hown1 k1 (by decide) g hg)
  have HW2 := Lib.hid hw2
  have HE := Lib.hid (And.intro hb2 ho2)
  have HK2 := Lib.hid (And.intro k1' k2')
  clear k0 k1 k2 hb1 hown1 hs2 hw2 k1' k2' hb2 ho2
  go_upto_region 10 with fail
  rw [← HW2.out]
  clear g1 p0 p1 p2 p3 p4 p5 q0 q1 q2 q3 q4 q5
  have p0 : w2.cell? ⟨B + 1, 0, none⟩ = some (.bool false) := HK2.out.1.cell 0
  have p1 : w2.cell? ⟨B + 1, 1, none⟩ = some (.int .i64 (a + x)) := HK2.out.1.cell 1
  have p2 : w2.cell? ⟨B + 1, 2, none⟩ = some (.slice none 0 0) := HK2.out.1.cell 2
  have p3 : w2.cell? ⟨B + 1, 3, none⟩ = some (.slice ao1 t'.length c1) := HK2.out.1.cell 3
  have p4 : w2.cell? ⟨B + 1, 4, none⟩ = some (.int .i64 (p' : Int)) := HK2.out.1.cell 4
  have p5 : w2.cell? ⟨B + 1, 5, none⟩ = some (.int .i64 e') := HK2.out.1.cell 5
  have r0 : w2.cell? ⟨B + 1 + 1, 0, none⟩ = some (.bool false) := HK2.out.2.cell 0
  have r1 : w2.cell? ⟨B + 1 + 1, 1, none⟩ = some (.int .i64 0) := HK2.out.2.cell 1
  have r2 : w2.cell? ⟨B + 1 + 1, 2, none⟩ = some (.slice none 0 0) := HK2.out.2.cell 2
  have r3 : w2.cell? ⟨B + 1 + 1, 3, none⟩ = some (.slice none 0 0) := HK2.out.2.cell 3
  have r4 : w2.cell? ⟨B + 1 + 1, 4, none⟩ = some (.int .i64 0) := HK2.out.2.cell 4
  have r5 : w2.cell? ⟨B + 1 + 1, 5, none⟩ = some (.int .i64 0) := HK2.out.2.cell 5
  have s0 : w2.frozen? ⟨B + 1 + 1, 0, none⟩ = false := HK2.out.2.froz 0
  have s1 : w2.frozen? ⟨B + 1 + 1, 1, none⟩ = false := HK2.out.2.froz 1
  have s2 : w2.frozen? ⟨B + 1 + 1, 2, none⟩ = false := HK2.out.2.froz 2
  have s3 : w2.frozen? ⟨B + 1 + 1, 3, none⟩ = false := HK2.out.2.froz 3
  have s4 : w2.frozen? ⟨B + 1 + 1, 4, none⟩ = false := HK2.out.2.froz 4
  have s5 : w2.frozen? ⟨B + 1 + 1, 5, none⟩ = false := HK2.out.2.froz 5
  go_wp2_with fail
  refine bodyPost_ret (v := playV (a + x) ao1 t'.length c1 p' e') (by simp [results, Tryz.results30, go_sem, r0, r1, r2, r3, r4, r5]) rfl ⟨?_, ao1, c1, rfl, ?_⟩
  · iterate 6 (refine Below.setCell ?_ (by show w.heap.size ≤ B + 1 + 1; omega) _)
    exact HE.out.1
  · refine owns_same HE.out.2 fun g hg => ?_
    have hn2 : g ≠ B + 1 + 1 := owns_far HE.out.2 HK2.out.2 (by decide) g hg
    repeat (rw [Below.heap_setCell _ _ _ _ hn2])
theorem Played_step (a b : Int) (ha : near a) (hab : a ≤ b) (hba : b - a ≤ 1000) (l : List Int) (lo : Option Addr) (lc : Nat) (md : Bool) (q : PS × Int) (ao : Option Addr) (c : Nat) (B0 : Nat) (ht : q.1.t.length ≤ 1000) (hp : q.1.pos ≤ 1000) (hl : l.length ≤ 1200000) (w : World) (hB0 : B0 ≤ w.heap.size)
    (hat : IntsAt .i64 w lo l) (hown : w.ownsRow B0 3 1 (.slice ao q.1.t.length c) q.1.t.length (q.1.t.map (.int .i64))) :
    Calls Tryz.prog 30 #[intG a b, playV q.2 ao q.1.t.length c q.1.pos q.1.err, .slice lo l.length lc, .bool md] w (PlPost B0 (st1 l md a (b - a) q) w) := by
  obtain ⟨⟨t, p, e0⟩, z⟩ := q
  by_cases he : e0 = 0
  · subst he
    exact Played_int a b ha hab hba l lo lc md z ao c t p B0 ht hp hl w hB0 hat hown
  · refine (Played_done a b z ao t.length c p e0 he lo l.length lc md w).mono ?_
    rintro e w' ⟨rfl, hb⟩
    have hs : st1 l md a (b - a) (⟨t, p, e0⟩, z) = (⟨t, p, e0⟩, z) := by unfold st1; rw [if_neg he]
    rw [hs]
    exact ⟨hb, ao, c, rfl, owns_below hown hb⟩
end Go.Proofs.YtalbllijahiiiaaGreatDoor
end

section
namespace Go.Proofs.YtalbllijahiiiaaGreatDoor
open Go.RowKit Go.Mine Go.Mine.Desk

def gens (a b : Int) : Nat → List Value
  | 0 => []
  | k + 1 => gens a b k ++ [.int .i64 2, .int .i64 a, .int .i64 b, .slice none 0 0]
theorem gens_len (a b : Int) : ∀ k, (gens a b k).length = k * 4
  | 0 => rfl
  | k + 1 => by rw [gens, List.length_append, gens_len a b k, Nat.succ_mul]; rfl
theorem gens_get (a b : Int) : ∀ (n k : Nat), k < n → (gens a b n)[k * 4]? = some (.int .i64 2) ∧ (gens a b n)[k * 4 + 1]? = some (.int .i64 a) ∧ (gens a b n)[k * 4 + 2]? = some (.int .i64 b) ∧ (gens a b n)[k * 4 + 3]? = some (.slice none 0 0)
  | 0, k, h => by omega
  | n + 1, k, h => by
    have hl := gens_len a b n
    rw [gens]
    rcases Nat.lt_or_ge k n with hk | hk
    · have ih := gens_get a b n k hk
      refine ⟨?_, ?_, ?_, ?_⟩ <;> rw [List.getElem?_append_left (by omega)]
      · exact ih.1
      · exact ih.2.1
      · exact ih.2.2.1
      · exact ih.2.2.2
    · obtain rfl : k = n := by omega
      refine ⟨?_, ?_, ?_, ?_⟩ <;> rw [List.getElem?_append_right (by omega), hl]
      · simp
      · rw [show k * 4 + 1 - k * 4 = 1 by omega]; rfl
      · rw [show k * 4 + 2 - k * 4 = 2 by omega]; rfl
      · rw [show k * 4 + 3 - k * 4 = 3 by omega]; rfl
theorem oneG (a b : Int) : ∀ u ∈ ([.int .i64 2, .int .i64 a, .int .i64 b, .slice none 0 0] : List Value), u.oneCell' = true := by simp [Value.oneCell']
structure GL (w : World) (n a b z : Int) (gb B B0 : Nat) (ao : Option Addr) (c : Nat) (s : PS) (i : Nat) (u : Value) (W : World) : Prop where
  below : Below w.heap.size w W
  gen : Blk W B 28 #[.int .i64 4, .int .i64 n, .int .i64 0, .slice (some ⟨gb, 0, none⟩) 1 1]
  play : Blk W (B + 1) 79 (playC z ao s.t.length c s.pos s.err)
  res : Blk W (B + 1 + 1) 79 (playC 0 none 0 0 0 0)
  sub : SubAt W gb a b
  row : W.ownsRow B0 3 1 (.slice ao s.t.length c) s.t.length (s.t.map (.int .i64))
  subs : W.ownsRow (B + 1 + 1 + 1) 28 4 u i (gens a b i)
structure GV (w : World) (a b : Int) (B B0 vb : Nat) (so : Option Addr) (sn sc : Nat) (ao : Option Addr) (c : Nat) (q : PS × Int) (zs : List Int) (u : Value) (W : World) : Prop where
  below : Below w.heap.size w W
  play : Blk W (B + 1) 79 (playC q.2 ao q.1.t.length c q.1.pos q.1.err)
  res : Blk W (B + 1 + 1) 79 (playC 0 none 0 0 0 0)
  row : W.ownsRow B0 3 1 (.slice ao q.1.t.length c) q.1.t.length (q.1.t.map (.int .i64))
  subs : W.ownsRow (B + 1 + 1 + 1) 28 4 (.slice so sn sc) sn (gens a b sn)
  val : Blk W vb 53 #[.bool true, .int .i64 0, u]
  far : B + 1 + 1 < vb
  items : W.ownsRow (vb + 1) 53 3 u zs.length (flatV zs)
def PlayedPost (B0 : Nat) (s : PS) (zs : List Int) (w : World) (e : Ending) (w' : World) : Prop :=
  Below w.heap.size w w' ∧ ∃ ao c u, e = .returned (.agg #[.bool true, .int .i64 0, u, .slice ao s.t.length c, .int .i64 s.pos, .int .i64 s.err]) ∧ w'.ownsRow B0 3 1 (.slice ao s.t.length c) s.t.length (s.t.map (.int .i64)) ∧ w'.ownsRow w.heap.size 53 3 u zs.length (flatV zs)
theorem GL.sets {w W W' : World} {n a b z : Int} {gb B B0 : Nat} {ao : Option Addr} {c : Nat} {s : PS} {i : Nat} {u : Value} (h : GL w n a b z gb B B0 ao c s i u W) (hb : Below W.heap.size W W') : GL w n a b z gb B B0 ao c s i u W' :=
  ⟨h.below.trans (hb.mono h.below.size), h.gen.below hb, h.play.below hb, h.res.below hb, h.sub.on hb, owns_below h.row hb, owns_below h.subs hb⟩
theorem GL.push {w W W' : World} {n a b z : Int} {gb B B0 : Nat} {ao : Option Addr} {c : Nat} {s : PS} {i : Nat} {u : Value} (h : GL w n a b z gb B B0 ao c s i u W) (hB : w.heap.size = B) (hgb : gb < B) {cs : Array Value} {g cap : Nat}
    (hg : (W.alloc (.cells cs 28)).grownBy W' u.ownBlock) (ho : W'.ownsRow (B + 1 + 1 + 1) 28 4 (.slice (some ⟨g, 0, none⟩) (i + 1) cap) (i + 1) (gens a b i ++ [.int .i64 2, .int .i64 a, .int .i64 b, .slice none 0 0])) :
    GL w n a b z gb B B0 ao c s (i + 1) (.slice (some ⟨g, 0, none⟩) (i + 1) cap) W' := by
  have hsz := h.res.lt
  have hfar := h.subs.lt
  have hb : ∀ k, k < B + 1 + 1 + 1 → k < W.heap.size → W'.heap[k]? = W.heap[k]? := fun k hk hk2 => by
    rw [hg.block k (by simp; omega) (fun e => by have := (hfar k e.symm).1; omega), Below.heap_alloc W _ k hk2]
  refine ⟨(h.below.alloc h.below.size (.cells cs 28)).grown hg (by have := h.below.size; simp; omega) (fun q hq => by have := (hfar q hq).1; omega), h.gen.same (hb _ (by omega) (by omega)), h.play.same (hb _ (by omega) (by omega)), h.res.same (hb _ (by omega) (by omega)), (hb gb (by omega) (by omega)).trans h.sub, owns_other h.row h.subs (by decide) hg, by rw [gens]; exact ho⟩
theorem GV.called {w W W' : World} {a b : Int} {B B0 vb : Nat} {so : Option Addr} {sn sc : Nat} {ao : Option Addr} {c : Nat} {q : PS × Int} {zs : List Int} {u : Value} (h : GV w a b B B0 vb so sn sc ao c q zs u W) (hb : Below W.heap.size W W') : GV w a b B B0 vb so sn sc ao c q zs u W' :=
  ⟨h.below.trans (hb.mono h.below.size), h.play.below hb, h.res.below hb, owns_below h.row hb, owns_below h.subs hb, h.val.below hb, h.far, owns_below h.items hb⟩
theorem GV.stored {w W W' : World} {a b : Int} {B B0 vb : Nat} {so : Option Addr} {sn sc : Nat} {ao : Option Addr} {c : Nat} {q : PS × Int} {zs : List Int} {u : Value} (h : GV w a b B B0 vb so sn sc ao c q zs u W) {q' : PS × Int} {ao' : Option Addr} {c' : Nat} (hB : w.heap.size = B)
    (hrow : W.ownsRow B0 3 1 (.slice ao' q'.1.t.length c') q'.1.t.length (q'.1.t.map (.int .i64)))
    (hW : W' = (((((W.setCell ⟨B + 1, 0, none⟩ (.bool false)).setCell ⟨B + 1, 1, none⟩ (.int .i64 q'.2)).setCell ⟨B + 1, 2, none⟩ (.slice none 0 0)).setCell ⟨B + 1, 3, none⟩ (.slice ao' q'.1.t.length c')).setCell ⟨B + 1, 4, none⟩ (.int .i64 q'.1.pos)).setCell ⟨B + 1, 5, none⟩ (.int .i64 q'.1.err)) :
    GV w a b B B0 vb so sn sc ao' c' q' zs u W' := by
  have hs : ∀ k, k ≠ B + 1 → W'.heap[k]? = W.heap[k]? := fun k hk => by
    rw [hW, Below.heap_setCell _ _ _ _ hk, Below.heap_setCell _ _ _ _ hk, Below.heap_setCell _ _ _ _ hk, Below.heap_setCell _ _ _ _ hk, Below.heap_setCell _ _ _ _ hk, Below.heap_setCell _ _ _ _ hk]
  have hf := h.far
  refine ⟨?_, ?_, h.res.same (hs _ (by omega)), owns_same hrow fun g hg => hs g (owns_far hrow h.play (by decide) g hg), owns_same h.subs fun g hg => hs g (by have := (h.subs.lt g hg).1; omega), h.val.same (hs _ (by omega)), h.far, owns_same h.items fun g hg => hs g (by have := (h.items.lt g hg).1; omega)⟩
  · rw [hW]
    iterate 6 (refine Below.setCell ?_ (by first | (show w.heap.size ≤ B + 1; omega) | (show w.heap.size ≤ B + 1 + 1; omega)) _)
    exact h.below
  · rw [hW]
    have k := (((((h.play.set 0 (.bool false)).set 1 (.int .i64 q'.2)).set 2 (.slice none 0 0)).set 3 (.slice ao' q'.1.t.length c')).set 4 (.int .i64 q'.1.pos)).set 5 (.int .i64 q'.1.err)
    simpa using k
theorem GV.push {w W W' : World} {a b : Int} {B B0 vb : Nat} {so : Option Addr} {sn sc : Nat} {ao : Option Addr} {c : Nat} {q : PS × Int} {zs : List Int} {u : Value} (h : GV w a b B B0 vb so sn sc ao c q zs u W) (hB : w.heap.size = B) {x : Int} {cs : Array Value} {g cap : Nat}
    (hg : (W.alloc (.cells cs 53)).grownBy W' u.ownBlock) (ho : W'.ownsRow (vb + 1) 53 3 (.slice (some ⟨g, 0, none⟩) (zs.length + 1) cap) (zs.length + 1) (flatV zs ++ [.bool false, .int .i64 x, .slice none 0 0])) :
    Blk W' vb 53 #[.bool true, .int .i64 0, u] ∧ GV w a b B B0 vb so sn sc ao c q (zs ++ [x]) (.slice (some ⟨g, 0, none⟩) (zs.length + 1) cap) (W'.setCell ⟨vb, 2, none⟩ (.slice (some ⟨g, 0, none⟩) (zs.length + 1) cap)) := by
  have hsz := h.val.lt
  have hf := h.far
  have hfar := h.items.lt
  have hb : ∀ k, k < vb + 1 → W'.heap[k]? = W.heap[k]? := fun k hk => by
    rw [hg.block k (by simp; omega) (fun e => by have := (hfar k e.symm).1; omega), Below.heap_alloc W _ k (by omega)]
  have hs : ∀ k, k ≠ vb → (W'.setCell ⟨vb, 2, none⟩ (.slice (some ⟨g, 0, none⟩) (zs.length + 1) cap)).heap[k]? = W'.heap[k]? := fun k hk => Below.heap_setCell _ _ _ _ hk
  have hv' : Blk W' vb 53 #[.bool true, .int .i64 0, u] := h.val.same (hb _ (by omega))
  have hrow' := owns_other h.row h.items (by decide) hg
  have hsub' := owns_other h.subs h.items (by decide) hg
  have hg1 : vb + 1 ≤ g := (ho.lt g rfl).1
  refine ⟨hv', ⟨?_, (h.play.same (hb _ (by omega))).other _ _ (by omega) _, (h.res.same (hb _ (by omega))).other _ _ (by omega) _, owns_same hrow' fun k hk => hs k (owns_far hrow' hv' (by decide) k hk), owns_same hsub' fun k hk => hs k (owns_far hsub' hv' (by decide) k hk), ?_, hf, ?_⟩⟩
  · refine Below.setCell ((h.below.alloc h.below.size (.cells cs 53)).grown hg (by have := h.below.size; simp; omega) (fun k hk => by have := (hfar k hk).1; omega)) (by show w.heap.size ≤ vb; omega) _
  · have k := hv'.set 2 (.slice (some ⟨g, 0, none⟩) (zs.length + 1) cap)
    simpa using k
  · rw [List.length_append, flatV_snoc]
    exact owns_same ho fun g' hg' => by
      cases hg'
      exact hs g (by omega)
set_option maxRecDepth 100000 in
set_option maxHeartbeats 8000000 in
theorem Played_many (n a b : Int) (gb : Nat) (hr : (G.many n a b).right) (l : List Int) (lo : Option Addr) (lc : Nat) (md : Bool) (hl : l.length ≤ 1200000) (w : World) (hat : IntsAt .i64 w lo l) (hsub : SubAt w gb a b) :
    Calls Tryz.prog 30 #[manyG n gb, playV 0 none 0 0 0 0, .slice lo l.length lc, .bool md] w
      (PlayedPost w.heap.size (stN l md a (b - a) ((ch l md n ps0).1, 0) (ch l md n ps0).2.toNat).1 (zsN l md a (b - a) ((ch l md n ps0).1, 0) (ch l md n ps0).2.toNat) w) := by
  obtain ⟨hn0, hn5, ha, hb, hab, hba⟩ := hr
  obtain ⟨i0, hi0, hz0, hz1, hz2⟩ := info_parts infoVal
  obtain ⟨i4, hi4, hx0, hx1, hx2⟩ := info_parts infoGen
  obtain ⟨w0, hw0⟩ : ∃ w0, w0 = ((w.alloc (.cells #[.int .i64 4, .int .i64 n, .int .i64 0, .slice (some ⟨gb, 0, none⟩) 1 1] 28)).alloc (.cells (playC 0 none 0 0 0 0) 79)).alloc (.cells (playC 0 none 0 0 0 0) 79) := ⟨_, rfl⟩
  have hb0 : Below w.heap.size w w0 := by rw [hw0]; exact (((Below.refl w.heap.size w).alloc (Nat.le_refl _) _).alloc (by simp) _).alloc (by simp; omega) _
  obtain ⟨B, hB⟩ : ∃ B, w.heap.size = B := ⟨_, rfl⟩
  have k0 : Blk w0 B 28 #[.int .i64 4, .int .i64 n, .int .i64 0, .slice (some ⟨gb, 0, none⟩) 1 1] := by rw [hw0, ← hB]; exact ((Blk.new _ _ _).alloc _).alloc _
  have k1 : Blk w0 (B + 1) 79 (playC 0 none 0 0 0 0) := by rw [hw0, ← hB]; exact (show Blk ((w.alloc (.cells #[.int .i64 4, .int .i64 n, .int .i64 0, .slice (some ⟨gb, 0, none⟩) 1 1] 28)).alloc (.cells (playC 0 none 0 0 0 0) 79)) (w.heap.size + 1) _ _ by have := Blk.new (w.alloc (.cells #[.int .i64 4, .int .i64 n, .int .i64 0, .slice (some ⟨gb, 0, none⟩) 1 1] 28)) 79 (playC 0 none 0 0 0 0); simpa using this).alloc _
  have k2 : Blk w0 (B + 1 + 1) 79 (playC 0 none 0 0 0 0) := by rw [hw0, ← hB]; have := Blk.new ((w.alloc (.cells #[.int .i64 4, .int .i64 n, .int .i64 0, .slice (some ⟨gb, 0, none⟩) 1 1] 28)).alloc (.cells (playC 0 none 0 0 0 0) 79)) 79 (playC 0 none 0 0 0 0); simpa using this
  have HC := Lib.hid (choice_any l lo lc md n hn0 (by omega) 0 none 0 [] 0 w.heap.size (by simp) (by omega) hl w0 hb0.size (ints_keep hat hb0) (World.ownsRow_nil _ _ _ _))
  have hcb := ch_b (l := l) (md := md) (m := n) hn0 ps0
  have HK := Lib.hid (And.intro hb0 (And.intro k0 (And.intro k1 (And.intro k2 (And.intro (hsub.on hb0) (ints_keep hat hb0))))))
  have HW0 := Lib.hid hw0
  have hgl : gb < B := by rw [← hB]; exact hsub.lt
  have HSTP := Lib.hid (fun (q : PS × Int) (ao : Option Addr) (c : Nat) (ht : q.1.t.length ≤ 1000) (hp : q.1.pos ≤ 1000) (W : World) (hB0 : w.heap.size ≤ W.heap.size) (hat : IntsAt .i64 W lo l) hown => Played_step a b ha hab hba l lo lc md q ao c w.heap.size ht hp hl W hB0 hat hown)
  have HSB := Lib.hid (fun (q : PS × Int) k => stN_b (l := l) (md := md) (a := a) (m := b - a) (by omega) q k)
  have HZL := Lib.hid (fun (q : PS × Int) k => zsN_len l md a (b - a) q k)
  have HAT := Lib.hid hat
  obtain ⟨ln, hln⟩ : ∃ ln, l.length = ln := ⟨_, rfl⟩
  rw [show (⟨[], 0, 0⟩ : PS) = ps0 from rfl] at HC
  obtain ⟨q0, hq0⟩ : ∃ q0, ch l md n ps0 = q0 := ⟨_, rfl⟩
  obtain ⟨s0, x⟩ := q0
  rw [hq0] at hcb HC ⊢
  rw [hln] at HC HSTP ⊢
  simp only [playV, List.length_nil] at HC ⊢
  simp only [playC] at hw0
  obtain ⟨hx0', hx1', ht1, hp1⟩ := hcb
  simp only [ps0, List.length_nil] at hx0' hx1' ht1 hp1
  obtain ⟨k, rfl⟩ : ∃ k : Nat, x = k := ⟨x.toNat, by omega⟩
  have hk5 : k ≤ 5 := by omega
  simp only [Int.toNat_natCast]
  rw [hw0] at HC
  clear hw0 hb0 k0 k1 k2 hat hq0 hln ha hb hsub hab hba
  go_enter Tryz.func30, Tryz.ntmps30
  go_wp2_with fail
  refine HC.out.mono ?_
  clear HC
  rintro e w1 ⟨hb1, ao1, c1, rfl, hown1⟩
  rw [← HW0.out] at hb1
  have hb1' := HK.out.1.trans (hb1.mono HK.out.1.size)
  have k0 := HK.out.2.1.below hb1
  have k1 := HK.out.2.2.1.below hb1
  have k2 := HK.out.2.2.2.1.below hb1
  have ks := HK.out.2.2.2.2.1.on hb1
  have p0 : w1.cell? ⟨B + 1, 0, none⟩ = some (.bool false) := k1.cell 0
  have p1 : w1.cell? ⟨B + 1, 1, none⟩ = some (.int .i64 0) := k1.cell 1
  have p2 : w1.cell? ⟨B + 1, 2, none⟩ = some (.slice none 0 0) := k1.cell 2
  have p3 : w1.cell? ⟨B + 1, 3, none⟩ = some (.slice none 0 0) := k1.cell 3
  have p4 : w1.cell? ⟨B + 1, 4, none⟩ = some (.int .i64 0) := k1.cell 4
  have p5 : w1.cell? ⟨B + 1, 5, none⟩ = some (.int .i64 0) := k1.cell 5
  have q0 : w1.frozen? ⟨B + 1, 0, none⟩ = false := k1.froz 0
  have q1 : w1.frozen? ⟨B + 1, 1, none⟩ = false := k1.froz 1
  have q2 : w1.frozen? ⟨B + 1, 2, none⟩ = false := k1.froz 2
  have q3 : w1.frozen? ⟨B + 1, 3, none⟩ = false := k1.froz 3
  have q4 : w1.frozen? ⟨B + 1, 4, none⟩ = false := k1.froz 4
  have q5 : w1.frozen? ⟨B + 1, 5, none⟩ = false := k1.froz 5
  obtain ⟨w2, hw2⟩ : ∃ w2, w2 = ((((((w1.setCell ⟨B + 1, 0, none⟩ (.bool false)).setCell ⟨B + 1, 1, none⟩ (.int .i64 0)).setCell ⟨B + 1, 2, none⟩ (.slice none 0 0)).setCell ⟨B + 1, 3, none⟩ (.slice ao1 s0.t.length c1)).setCell ⟨B + 1, 4, none⟩ (.int .i64 (s0.pos : Int))).setCell ⟨B + 1, 5, none⟩ (.int .i64 s0.err)) := ⟨_, rfl⟩
  have hs2 : ∀ g, g ≠ B + 1 → w2.heap[g]? = w1.heap[g]? := fun g hg => by
    rw [hw2]
    repeat (rw [Below.heap_setCell _ _ _ _ hg])
  have k1' : Blk w2 (B + 1) 79 (playC 0 ao1 s0.t.length c1 s0.pos s0.err) := by rw [hw2]; simpa using (((((k1.set 0 (.bool false)).set 1 (.int .i64 0)).set 2 (.slice none 0 0)).set 3 (.slice ao1 s0.t.length c1)).set 4 (.int .i64 (s0.pos : Int))).set 5 (.int .i64 s0.err)
  have hb2 : Below w.heap.size w w2 := by
    rw [hw2]
    iterate 6 (refine Below.setCell ?_ (by show w.heap.size ≤ B + 1; omega) _)
    exact hb1'
  have hsz2 : w2.heap.size = w1.heap.size := by rw [hw2]; simp [World.setCell]
  have hgw : gb < w1.heap.size := ks.lt
  have HG0 := Lib.hid (show GL w n a b 0 gb B w.heap.size ao1 c1 s0 0 (.slice none 0 0) w2 from ⟨hb2, k0.same (hs2 _ (by omega)), k1', k2.same (hs2 _ (by omega)), (hs2 gb (by omega)).trans ks, owns_same hown1 fun g hg => hs2 g (owns_far hown1 k1 (by decide) g hg), World.ownsRow_nil _ _ _ _⟩)
  have HW2 := Lib.hid hw2
  clear k0 k1 k2 ks k1' hb1 hb1' hs2 hw2 hb2 hown1 hsz2 hgw
  simp only
  go_upto_region 17 with fail
  rw [← HW2.out]
  clear p0 q0 p1 q1 p2 q2 p3 q3 p4 q4 p5 q5
  go_wp2_with fail
  go_loopw [10, 11] (fun sv iv wr => ∃ i : Nat, iv = .int .i64 (i : Int) ∧ i ≤ k ∧ RowKit.Hid (GL w n a b 0 gb B w.heap.size ao1 c1 s0 i sv wr)) (fun _ iv _ => k - (intOf iv).toNat)
  case atStart => exact ⟨0, rfl, by omega, HG0⟩
  case round =>
    obtain ⟨i, rfl, hi, HG⟩ := hrel
    rcases Nat.lt_or_ge i k with hik | hik
    · obtain ⟨so, sc, rfl⟩ := owns_shape HG.out.subs
      have g3 : wr.cell? ⟨B, 3, none⟩ = some (.slice (some ⟨gb, 0, none⟩) 1 1) := HG.out.gen.cell 3
      have e0 := HG.out.sub.c0
      have e1 := HG.out.sub.c1
      have e2 := HG.out.sub.c2
      have e3 := HG.out.sub.c3
      have hi0' : (0 : Int) ≤ (i : Int) := by omega
      have hi1 : (i : Int) < (k : Int) := by omega
      have hw1 : IntKind.i64.wrap ((i : Int) + 1) = ((i + 1 : Nat) : Int) := by rw [IntWalk.i64_in _ (by omega)]; omega
      have hszr : B + 1 + 1 + 1 ≤ wr.heap.size := HG.out.res.lt
      go_wp2_with (at_builtin; refine wpList_push2 _ rfl _ _ 26 rfl (B + 1 + 1 + 1) 28 i4 (.agg #[.int .i64 0, .int .i64 0, .int .i64 0, .slice none 0 0]) 4 48 Tryz.underlying26 hi4 hx0 hx1 hx2 rfl (by decide) _ _ _ rfl (HG.out.subs.alloc _) ⟨wr.heap.size, 0, none⟩ 1 [.int .i64 2, .int .i64 a, .int .i64 b, .slice none 0 0] rfl rfl (World.news_of_block (cs := #[.int .i64 2, .int .i64 a, .int .i64 b, .slice none 0 0]) (t := 28) (fr := (0, 0)) (heap_alloc_at _ _ rfl)) (oneG _ _) (by unfold maxLen; omega) (by omega) (by simp; omega) ?_)
      intro g cap w7 hown hgr hat7
      have HG7 := Lib.hid (HG.out.push hB hgl hgr hown)
      clear hown hgr hat7
      go_wp2_with fail
      go_roundw
      case rel => exact ⟨i + 1, by go_num, by omega, HG7⟩
      case measure => simp [intOf]; omega
    · obtain rfl : i = k := by omega
      obtain ⟨so, sc, rfl⟩ := owns_shape HG.out.subs
      obtain ⟨vb, hvb⟩ : ∃ vb, vb = wr.heap.size := ⟨_, rfl⟩
      obtain ⟨w3, hw3⟩ : ∃ w3, w3 = wr.alloc (.cells #[.bool true, .int .i64 0, .slice none 0 0] 53) := ⟨_, rfl⟩
      have hb3 : Below wr.heap.size wr w3 := by rw [hw3]; exact (Below.refl _ _).alloc (Nat.le_refl _) _
      have HG3 := Lib.hid (HG.out.sets hb3)
      have kv : Blk w3 vb 53 #[.bool true, .int .i64 0, .slice none 0 0] := by rw [hw3, hvb]; exact Blk.new _ _ _
      have hszr : B + 1 + 1 + 1 ≤ wr.heap.size := HG.out.res.lt
      have HV0 := Lib.hid (show GV w a b B w.heap.size vb so i sc ao1 c1 (s0, 0) [] (.slice none 0 0) w3 from ⟨HG3.out.below, HG3.out.play, HG3.out.res, HG3.out.row, HG3.out.subs, kv, by omega, World.ownsRow_nil _ _ _ _⟩)
      have HW3 := Lib.hid hw3
      have HVB := Lib.hid hvb
      have hvB : B + 1 + 1 < vb := by omega
      clear hb3 kv hszr HG HG3 hvb hw3
      go_upto_region 23 with fail
      rw [← HW3.out, ← HVB.out]
      go_wp2_with fail
      go_loopw [13] (fun iv wx => ∃ (j : Nat) (q : PS × Int) (zs : List Int) (ao : Option Addr) (c : Nat) (u : Value), iv = .int .i64 (j : Int) ∧ j ≤ i ∧ RowKit.Hid (q = stN l md a (b - a) (s0, 0) j ∧ zs = zsN l md a (b - a) (s0, 0) j ∧ GV w a b B w.heap.size vb so i sc ao c q zs u wx)) (fun iv _ => i - (intOf iv).toNat)
      case atStart => exact ⟨0, (s0, 0), [], ao1, c1, _, rfl, by omega, Lib.hid ⟨rfl, rfl, HV0.out⟩⟩
      case round =>
        obtain ⟨j, q, zs, ao, c, u, rfl, hj, HJ⟩ := hrel
        obtain ⟨uo, uc, rfl⟩ := owns_shape HJ.out.2.2.items
        have hzl : zs.length = j := by rw [HJ.out.2.1]; exact HZL.out _ _
        have hqb := HSB.out (s0, 0) j
        rw [← HJ.out.1] at hqb
        obtain ⟨hqt, hqp⟩ := hqb
        simp only at hqt hqp
        rcases Nat.lt_or_ge j i with hji | hji
        · obtain ⟨sg, rfl⟩ : ∃ sg, so = some ⟨sg, 0, none⟩ := by
            rcases HJ.out.2.2.subs.2 with ⟨_, h0⟩ | ⟨g, cap, cur, h1, _⟩
            · omega
            · simp only [Value.slice.injEq] at h1
              exact ⟨g, h1.1⟩
          obtain ⟨x0, x1, x2, x3⟩ := gens_get a b i j hji
          have hgl := gens_len a b i
          have g0 : wr.cell? ⟨sg, j * 4, none⟩ = some (.int .i64 2) := by rw [HJ.out.2.2.subs.cellAt _ (by omega)]; exact x0
          have g1 : wr.cell? ⟨sg, j * 4 + 1, none⟩ = some (.int .i64 a) := by rw [HJ.out.2.2.subs.cellAt _ (by omega)]; exact x1
          have g2 : wr.cell? ⟨sg, j * 4 + 2, none⟩ = some (.int .i64 b) := by rw [HJ.out.2.2.subs.cellAt _ (by omega)]; exact x2
          have g3 : wr.cell? ⟨sg, j * 4 + 3, none⟩ = some (.slice none 0 0) := by rw [HJ.out.2.2.subs.cellAt _ (by omega)]; exact x3
          have p0 : wr.cell? ⟨B + 1, 0, none⟩ = some (.bool false) := HJ.out.2.2.play.cell 0
          have p1 : wr.cell? ⟨B + 1, 1, none⟩ = some (.int .i64 q.2) := HJ.out.2.2.play.cell 1
          have p2 : wr.cell? ⟨B + 1, 2, none⟩ = some (.slice none 0 0) := HJ.out.2.2.play.cell 2
          have p3 : wr.cell? ⟨B + 1, 3, none⟩ = some (.slice ao q.1.t.length c) := HJ.out.2.2.play.cell 3
          have p4 : wr.cell? ⟨B + 1, 4, none⟩ = some (.int .i64 (q.1.pos : Int)) := HJ.out.2.2.play.cell 4
          have p5 : wr.cell? ⟨B + 1, 5, none⟩ = some (.int .i64 q.1.err) := HJ.out.2.2.play.cell 5
          have qf0 : wr.frozen? ⟨B + 1, 0, none⟩ = false := HJ.out.2.2.play.froz 0
          have qf1 : wr.frozen? ⟨B + 1, 1, none⟩ = false := HJ.out.2.2.play.froz 1
          have qf2 : wr.frozen? ⟨B + 1, 2, none⟩ = false := HJ.out.2.2.play.froz 2
          have qf3 : wr.frozen? ⟨B + 1, 3, none⟩ = false := HJ.out.2.2.play.froz 3
          have qf4 : wr.frozen? ⟨B + 1, 4, none⟩ = false := HJ.out.2.2.play.froz 4
          have qf5 : wr.frozen? ⟨B + 1, 5, none⟩ = false := HJ.out.2.2.play.froz 5
          have hi0' : (0 : Int) ≤ (j : Int) := by omega
          have hi1 : (j : Int) < (i : Int) := by omega
          have hw1 : IntKind.i64.wrap ((j : Int) + 1) = ((j + 1 : Nat) : Int) := by rw [IntWalk.i64_in _ (by omega)]; omega
          have HC := Lib.hid (HSTP.out q ao c (by omega) (by omega) wr.drew HJ.out.2.2.below.size (show IntsAt .i64 wr lo l from HAT.out.below (Nat.le_refl _) HJ.out.2.2.below) HJ.out.2.2.row)
          have HZJ := Lib.hid hzl
          have HQJ := Lib.hid (And.intro hqt hqp)
          have hzb : zs.length ≤ 5 := by omega
          clear x0 x1 x2 x3 hgl hzl hqt hqp
          simp only [playV] at HC
          go_wp2_with fail
          go_still_tail 7, (by kernel_rfl)
          go_wp2_with fail
          refine HC.out.mono ?_
          clear HC
          rintro e w5 ⟨hb5, ao', c', rfl, hown5⟩
          have HJ5 := Lib.hid (HJ.out.2.2.called (show Below wr.heap.size wr w5 from ((Below.refl _ wr).drew).trans hb5))
          obtain ⟨q', hq'⟩ : ∃ q', q' = st1 l md a (b - a) q := ⟨_, rfl⟩
          rw [← hq'] at hown5 ⊢
          have HQ' := Lib.hid (show q' = stN l md a (b - a) (s0, 0) (j + 1) by rw [hq', HJ.out.1]; rfl)
          obtain ⟨w6, hw6⟩ : ∃ w6, w6 = ((((((w5.setCell ⟨B + 1, 0, none⟩ (.bool false)).setCell ⟨B + 1, 1, none⟩ (.int .i64 q'.2)).setCell ⟨B + 1, 2, none⟩ (.slice none 0 0)).setCell ⟨B + 1, 3, none⟩ (.slice ao' q'.1.t.length c')).setCell ⟨B + 1, 4, none⟩ (.int .i64 (q'.1.pos : Int))).setCell ⟨B + 1, 5, none⟩ (.int .i64 q'.1.err)) := ⟨_, rfl⟩
          have HJ6 := Lib.hid (HJ5.out.stored (q' := q') (ao' := ao') (c' := c') hB hown5 hw6)
          have HW6 := Lib.hid hw6
          clear g0 g1 g2 g3 p0 p1 p2 p3 p4 p5 qf0 qf1 qf2 qf3 qf4 qf5 hq' hw6 hb5 hown5
          have p0 : w5.cell? ⟨B + 1, 0, none⟩ = some (.bool false) := HJ5.out.play.cell 0
          have p1 : w5.cell? ⟨B + 1, 1, none⟩ = some (.int .i64 q.2) := HJ5.out.play.cell 1
          have p2 : w5.cell? ⟨B + 1, 2, none⟩ = some (.slice none 0 0) := HJ5.out.play.cell 2
          have p3 : w5.cell? ⟨B + 1, 3, none⟩ = some (.slice ao q.1.t.length c) := HJ5.out.play.cell 3
          have p4 : w5.cell? ⟨B + 1, 4, none⟩ = some (.int .i64 (q.1.pos : Int)) := HJ5.out.play.cell 4
          have p5 : w5.cell? ⟨B + 1, 5, none⟩ = some (.int .i64 q.1.err) := HJ5.out.play.cell 5
          have qf0 : w5.frozen? ⟨B + 1, 0, none⟩ = false := HJ5.out.play.froz 0
          have qf1 : w5.frozen? ⟨B + 1, 1, none⟩ = false := HJ5.out.play.froz 1
          have qf2 : w5.frozen? ⟨B + 1, 2, none⟩ = false := HJ5.out.play.froz 2
          have qf3 : w5.frozen? ⟨B + 1, 3, none⟩ = false := HJ5.out.play.froz 3
          have qf4 : w5.frozen? ⟨B + 1, 4, none⟩ = false := HJ5.out.play.froz 4
          have qf5 : w5.frozen? ⟨B + 1, 5, none⟩ = false := HJ5.out.play.froz 5
          go_upto_region 27 with fail
          rw [← HW6.out]
          clear p0 p1 p2 p3 p4 p5 qf0 qf1 qf2 qf3 qf4 qf5
          have p0 : w6.cell? ⟨B + 1, 0, none⟩ = some (.bool false) := HJ6.out.play.cell 0
          have p1 : w6.cell? ⟨B + 1, 1, none⟩ = some (.int .i64 q'.2) := HJ6.out.play.cell 1
          have p2 : w6.cell? ⟨B + 1, 2, none⟩ = some (.slice none 0 0) := HJ6.out.play.cell 2
          have p3 : w6.cell? ⟨B + 1, 3, none⟩ = some (.slice ao' q'.1.t.length c') := HJ6.out.play.cell 3
          have p4 : w6.cell? ⟨B + 1, 4, none⟩ = some (.int .i64 (q'.1.pos : Int)) := HJ6.out.play.cell 4
          have p5 : w6.cell? ⟨B + 1, 5, none⟩ = some (.int .i64 q'.1.err) := HJ6.out.play.cell 5
          have v2 : w6.cell? ⟨vb, 2, none⟩ = some (.slice uo zs.length uc) := HJ6.out.val.cell 2
          have hz6 : vb + 1 ≤ w6.heap.size := HJ6.out.val.lt
          go_wp2_with (at_builtin; refine wpList_push2 _ rfl _ _ 51 rfl (vb + 1) 53 i0 (numV' 0) 3 40 Tryz.underlying51 hi0 hz0 hz1 hz2 rfl (by decide) _ _ _ rfl (HJ6.out.items.alloc _) ⟨w6.heap.size, 0, none⟩ 1 [.bool false, .int .i64 q'.2, .slice none 0 0] rfl rfl (World.news_of_block (cs := #[.bool false, .int .i64 q'.2, .slice none 0 0]) (t := 53) (fr := (0, 0)) (heap_alloc_at _ _ rfl)) (one3 _) (by unfold maxLen; omega) (by omega) (by simp; omega) ?_)
          intro g cap w7 hown hgr hat7
          have hp7 := HJ6.out.push hB (x := q'.2) hgr hown
          have e7 : w7.cell? ⟨vb, 2, none⟩ = some (.slice uo zs.length uc) := hp7.1.cell 2
          have f7 : w7.frozen? ⟨vb, 2, none⟩ = false := hp7.1.froz 2
          have HJ7 := Lib.hid (And.intro HQ'.out (And.intro (show zs ++ [q'.2] = zsN l md a (b - a) (s0, 0) (j + 1) by rw [zsN, ← HQ'.out, HJ.out.2.1]) hp7.2))
          clear p0 p1 p2 p3 p4 p5 v2 hown hgr hat7 hp7
          go_wp2_with fail
          go_roundw
          case rel => exact ⟨j + 1, q', zs ++ [q'.2], ao', c', _, by go_num, by omega, HJ7⟩
          case measure => simp [intOf]; omega
        · obtain rfl : j = i := by omega
          clear hzl hqt hqp
          have v0 : wr.cell? ⟨vb, 0, none⟩ = some (.bool true) := HJ.out.2.2.val.cell 0
          have v1 : wr.cell? ⟨vb, 1, none⟩ = some (.int .i64 0) := HJ.out.2.2.val.cell 1
          have v2 : wr.cell? ⟨vb, 2, none⟩ = some (.slice uo zs.length uc) := HJ.out.2.2.val.cell 2
          have p0 : wr.cell? ⟨B + 1, 0, none⟩ = some (.bool false) := HJ.out.2.2.play.cell 0
          have p1 : wr.cell? ⟨B + 1, 1, none⟩ = some (.int .i64 q.2) := HJ.out.2.2.play.cell 1
          have p2 : wr.cell? ⟨B + 1, 2, none⟩ = some (.slice none 0 0) := HJ.out.2.2.play.cell 2
          have p3 : wr.cell? ⟨B + 1, 3, none⟩ = some (.slice ao q.1.t.length c) := HJ.out.2.2.play.cell 3
          have p4 : wr.cell? ⟨B + 1, 4, none⟩ = some (.int .i64 (q.1.pos : Int)) := HJ.out.2.2.play.cell 4
          have p5 : wr.cell? ⟨B + 1, 5, none⟩ = some (.int .i64 q.1.err) := HJ.out.2.2.play.cell 5
          have qf0 : wr.frozen? ⟨B + 1, 0, none⟩ = false := HJ.out.2.2.play.froz 0
          have qf1 : wr.frozen? ⟨B + 1, 1, none⟩ = false := HJ.out.2.2.play.froz 1
          have qf2 : wr.frozen? ⟨B + 1, 2, none⟩ = false := HJ.out.2.2.play.froz 2
          have qf3 : wr.frozen? ⟨B + 1, 3, none⟩ = false := HJ.out.2.2.play.froz 3
          have qf4 : wr.frozen? ⟨B + 1, 4, none⟩ = false := HJ.out.2.2.play.froz 4
          have qf5 : wr.frozen? ⟨B + 1, 5, none⟩ = false := HJ.out.2.2.play.froz 5
          obtain ⟨w8, hw8⟩ : ∃ w8, w8 = (((wr.setCell ⟨B + 1, 0, none⟩ (.bool true)).setCell ⟨B + 1, 1, none⟩ (.int .i64 0)).setCell ⟨B + 1, 2, none⟩ (.slice uo zs.length uc)) := ⟨_, rfl⟩
          have hs8 : ∀ g, g ≠ B + 1 → w8.heap[g]? = wr.heap[g]? := fun g hg => by
            rw [hw8]
            repeat (rw [Below.heap_setCell _ _ _ _ hg])
          have k8 : Blk w8 (B + 1) 79 #[.bool true, .int .i64 0, .slice uo zs.length uc, .slice ao q.1.t.length c, .int .i64 (q.1.pos : Int), .int .i64 q.1.err] := by rw [hw8]; simpa using ((HJ.out.2.2.play.set 0 (.bool true)).set 1 (.int .i64 0)).set 2 (.slice uo zs.length uc)
          have r8 : Blk w8 (B + 1 + 1) 79 (playC 0 none 0 0 0 0) := HJ.out.2.2.res.same (hs8 _ (by omega))
          have hb8 : Below w.heap.size w w8 := by
            rw [hw8]
            iterate 3 (refine Below.setCell ?_ (by show w.heap.size ≤ B + 1; omega) _)
            exact HJ.out.2.2.below
          have o8 : w8.ownsRow w.heap.size 3 1 (.slice ao q.1.t.length c) q.1.t.length (q.1.t.map (.int .i64)) := owns_same HJ.out.2.2.row fun g hg => hs8 g (owns_far HJ.out.2.2.row HJ.out.2.2.play (by decide) g hg)
          have i8 : w8.ownsRow (vb + 1) 53 3 (.slice uo zs.length uc) zs.length (flatV zs) := owns_same HJ.out.2.2.items fun g hg => hs8 g (by have := (HJ.out.2.2.items.lt g hg).1; omega)
          have H8 := Lib.hid (And.intro hb8 (And.intro k8 (And.intro r8 (And.intro o8 i8))))
          have HW8 := Lib.hid hw8
          clear hs8 k8 r8 hb8 o8 i8 hw8
          go_upto_region 29 with fail
          rw [← HW8.out]
          clear v0 v1 v2 p0 p1 p2 p3 p4 p5 qf0 qf1 qf2 qf3 qf4 qf5
          have p0 : w8.cell? ⟨B + 1, 0, none⟩ = some (.bool true) := H8.out.2.1.cell 0
          have p1 : w8.cell? ⟨B + 1, 1, none⟩ = some (.int .i64 0) := H8.out.2.1.cell 1
          have p2 : w8.cell? ⟨B + 1, 2, none⟩ = some (.slice uo zs.length uc) := H8.out.2.1.cell 2
          have p3 : w8.cell? ⟨B + 1, 3, none⟩ = some (.slice ao q.1.t.length c) := H8.out.2.1.cell 3
          have p4 : w8.cell? ⟨B + 1, 4, none⟩ = some (.int .i64 (q.1.pos : Int)) := H8.out.2.1.cell 4
          have p5 : w8.cell? ⟨B + 1, 5, none⟩ = some (.int .i64 q.1.err) := H8.out.2.1.cell 5
          have r0 : w8.cell? ⟨B + 1 + 1, 0, none⟩ = some (.bool false) := H8.out.2.2.1.cell 0
          have r1 : w8.cell? ⟨B + 1 + 1, 1, none⟩ = some (.int .i64 0) := H8.out.2.2.1.cell 1
          have r2 : w8.cell? ⟨B + 1 + 1, 2, none⟩ = some (.slice none 0 0) := H8.out.2.2.1.cell 2
          have r3 : w8.cell? ⟨B + 1 + 1, 3, none⟩ = some (.slice none 0 0) := H8.out.2.2.1.cell 3
          have r4 : w8.cell? ⟨B + 1 + 1, 4, none⟩ = some (.int .i64 0) := H8.out.2.2.1.cell 4
          have r5 : w8.cell? ⟨B + 1 + 1, 5, none⟩ = some (.int .i64 0) := H8.out.2.2.1.cell 5
          have s0 : w8.frozen? ⟨B + 1 + 1, 0, none⟩ = false := H8.out.2.2.1.froz 0
          have s1 : w8.frozen? ⟨B + 1 + 1, 1, none⟩ = false := H8.out.2.2.1.froz 1
          have s2 : w8.frozen? ⟨B + 1 + 1, 2, none⟩ = false := H8.out.2.2.1.froz 2
          have s3 : w8.frozen? ⟨B + 1 + 1, 3, none⟩ = false := H8.out.2.2.1.froz 3
          have s4 : w8.frozen? ⟨B + 1 + 1, 4, none⟩ = false := H8.out.2.2.1.froz 4
          have s5 : w8.frozen? ⟨B + 1 + 1, 5, none⟩ = false := H8.out.2.2.1.froz 5
          go_wp2_with fail
          refine bodyPost_ret (v := .agg #[.bool true, .int .i64 0, .slice uo zs.length uc, .slice ao q.1.t.length c, .int .i64 (q.1.pos : Int), .int .i64 q.1.err]) (by simp [results, Tryz.results30, go_sem, r0, r1, r2, r3, r4, r5]) rfl ⟨?_, ao, c, .slice uo zs.length uc, ?_, ?_, ?_⟩
          · iterate 6 (refine Below.setCell ?_ (by show w.heap.size ≤ B + 1 + 1; omega) _)
            exact H8.out.1
          · rw [← HJ.out.1]
          · rw [← HJ.out.1]
            refine owns_same H8.out.2.2.2.1 fun g hg => ?_
            have hn2 : g ≠ B + 1 + 1 := owns_far H8.out.2.2.2.1 H8.out.2.2.1 (by decide) g hg
            repeat (rw [Below.heap_setCell _ _ _ _ hn2])
          · rw [← HJ.out.2.1]
            refine owns_same (H8.out.2.2.2.2.mono (by omega)) fun g hg => ?_
            have hn2 : g ≠ B + 1 + 1 := by have := (H8.out.2.2.2.2.lt g hg).1; omega
            repeat (rw [Below.heap_setCell _ _ _ _ hn2])
end Go.Proofs.YtalbllijahiiiaaGreatDoor
end
