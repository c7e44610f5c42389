/- gen.Draw. tape.Check, Less, Text. tape.Text. -/
import Derived.Test.YtalbllijahiiiaaGreatDoorDkAD
import Derived.Lib.ItoaLen
section
namespace Go.Proofs.YtalbllijahiiiaaGreatDoor
open Go.RowKit Go.Mine Go.Mine.Desk

theorem row_next {pb : Nat} {T : TypeId} {u : Value} {w w7 : World} {L g cap : Nat} {xs ys : List Value} {cs : Array Value}
    (k0 : Blk w pb T #[u]) (k2 : w.ownsRow (pb + 1) 3 1 u L xs) (hown : w7.ownsRow (pb + 1) 3 1 (.slice (some ⟨g, 0, none⟩) (L + 1) cap) (L + 1) ys) (hgr : (w.alloc (.cells cs 3)).grownBy w7 u.ownBlock) (hat : u.ownBlock = some g ∨ g = w.heap.size + 1) :
    Blk (w7.setCell ⟨pb, 0, none⟩ (.slice (some ⟨g, 0, none⟩) (L + 1) cap)) pb T #[.slice (some ⟨g, 0, none⟩) (L + 1) cap] ∧
    (w7.setCell ⟨pb, 0, none⟩ (.slice (some ⟨g, 0, none⟩) (L + 1) cap)).ownsRow (pb + 1) 3 1 (.slice (some ⟨g, 0, none⟩) (L + 1) cap) (L + 1) ys ∧
    (∀ k, k < w.heap.size → k ≠ pb → u.ownBlock ≠ some k → (w7.setCell ⟨pb, 0, none⟩ (.slice (some ⟨g, 0, none⟩) (L + 1) cap)).heap[k]? = w.heap[k]?) ∧
    Tch (fun k => k = pb ∨ u.ownBlock = some k) w (w7.setCell ⟨pb, 0, none⟩ (.slice (some ⟨g, 0, none⟩) (L + 1) cap)) ∧ (u.ownBlock = some g ∨ w.heap.size ≤ g) ∧
    w7.cell? ⟨pb, 0, none⟩ = some u ∧ w7.frozen? ⟨pb, 0, none⟩ = false := by
  have hl0 := k0.lt
  have hlt := k2.lt
  have hb : ∀ k, k < w.heap.size → u.ownBlock ≠ some k → w7.heap[k]? = w.heap[k]? := fun k hk hn => by
    rw [hgr.block k (by simp; omega) (fun e => hn e.symm), Below.heap_alloc w _ k hk]
  have hP : ∀ k, k ≤ pb → u.ownBlock ≠ some k := fun k hk e => by have := (hlt k e).1; omega
  have hg : g ≠ pb := by
    rcases hat with h | h
    · have := (hlt g h).1; omega
    · omega
  have k7 := k0.same (hb _ hl0 (hP _ (Nat.le_refl _)))
  refine ⟨k7.set 0 _, owns_same hown fun g' hg' => by cases hg'; exact Below.heap_setCell _ _ _ _ hg, fun k hk hn hu => ?_, ?_, hat.imp_right fun h => by omega, k7.cell 0, k7.froz 0⟩
  · rw [Below.heap_setCell _ _ _ _ hn, hb k hk hu]
  · exact (((Tch.refl _ w).alloc (.cells cs 3)).grown hgr fun k hk => .inl (.inr hk)).set (.inl (.inl rfl)) _
theorem draw_enters (lb : Array Value) (v : Value) (w : World) : Sem.run Tryz.prog (callFunc 146 (#[v] ++ lb)) w = .ok (.enter 146 (#[v] ++ lb)) w := by kernel_rfl
def drawC (pb sb : Nat) (W : World) (hp : W.heap.size ≤ pb) : Chooser (Seed × List Int × Value) (Seed × List Int) where
  gf := 146
  caps := #[.pointer (some ⟨sb, 0, none⟩), .pointer (some ⟨pb, 0, none⟩)]
  I s w := Blk w pb 48 #[s.2.2] ∧ Blk w sb 87 #[.int .u64 s.1.st, .int .u64 s.1.ga] ∧ w.ownsRow (pb + 1) 3 1 s.2.2 s.2.1.length (s.2.1.map (.int .i64)) ∧ (∀ k, k < W.heap.size → w.heap[k]? = W.heap[k]?) ∧ s.2.1.length ≤ 100 ∧ s.1.ok
  own s k := k = pb ∨ k = sb ∨ s.2.2.ownBlock = some k
  abs s := (s.1, s.2.1)
  step s m := .ok (s.1.below (m + 1), (s.1.next, s.2 ++ [s.1.below (m + 1)]))
  lo := W.heap.size
  room s := 100 - s.2.1.length
  keep s w w' h h1 h2 := ⟨h.1.same (h1 pb (.inl rfl)), h.2.1.same (h1 sb (.inr (.inl rfl))), owns_same h.2.2.1 fun g hg => h1 g (.inr (.inr hg)), fun k hk => (h2 k hk).trans (h.2.2.2.1 k hk), h.2.2.2.2⟩
  low s w h := by have := h.1.lt; omega
  lt s w k h hk := by
    rcases hk with rfl | rfl | hk
    · exact h.1.lt
    · exact h.2.1.lt
    · exact (h.2.2.1.lt k hk).2
  enters := draw_enters _
set_option maxRecDepth 100000 in
set_option maxHeartbeats 1000000 in
theorem draw_does (pb sb : Nat) (W : World) (hp : W.heap.size ≤ pb) (hsb : sb < pb) (hw : W.heap.size ≤ sb) : (drawC pb sb W hp).Does := by
  rintro ⟨⟨st, ga⟩, out, u⟩ w m hI hrm hm0 hm1
  replace hrm : out.length < 100 := by have : 0 < 100 - out.length := hrm; omega
  show Calls Tryz.prog 146 #[.int .i64 m, .pointer (some ⟨sb, 0, none⟩), .pointer (some ⟨pb, 0, none⟩)] w _
  obtain ⟨k0, k1, k2, k3, k4, hok⟩ := id hI
  replace k2 : w.ownsRow (pb + 1) 3 1 u out.length (out.map (.int .i64)) := k2
  replace hok : (Seed.mk st ga).ok := hok
  obtain ⟨uo, ucap, rfl⟩ := owns_shape k2
  have c0 : w.cell? ⟨sb, 0, none⟩ = some (.int .u64 st) := k1.cell 0
  have c1 : w.cell? ⟨sb, 1, none⟩ = some (.int .u64 ga) := k1.cell 1
  have hb := Seed.below_b ⟨st, ga⟩ (show 1 ≤ m + 1 by omega)
  have hw1 : IntKind.i64.wrap (m + 1) = m + 1 := IntWalk.i64_in _ (by omega)
  have HC := Lib.hid (below_any st ga hok (m + 1) (by omega) w)
  have HNX := Lib.hid (Seed.next_ok hok)
  obtain ⟨x, hx⟩ : ∃ x, (Seed.mk st ga).below (m + 1) = x := ⟨_, rfl⟩
  obtain ⟨nx, hnx⟩ : ∃ nx, (Seed.mk st ga).next = nx := ⟨_, rfl⟩
  obtain ⟨a1, b1⟩ := nx
  rw [hx, hnx] at HC
  rw [hnx] at HNX
  rw [hx] at hb
  have HX := Lib.hid (And.intro hx hnx)
  have HK := Lib.hid (And.intro k0 (And.intro k1 (And.intro k2 k3)))
  have hm1' : m + 1 ≤ 1001 := by omega
  obtain ⟨i0, hi0, hz0, hz1, hz2⟩ := info_parts infoI3d
  clear hx hnx hok k0 k1 k2 k3 k4 hI
  go_enter Tryz.func146, Tryz.ntmps146
  go_wp2_with fail
  refine HC.out.mono ?_
  clear HC
  rintro e w1 ⟨rfl, hb1⟩
  have k0 := HK.out.1.below hb1
  have k1 := HK.out.2.1.below hb1
  have hpl := HK.out.1.lt
  have hs1 := hb1.size
  obtain ⟨w2, hw2⟩ : ∃ w2, w2 = w1.alloc (.cells #[.int .u64 a1, .int .u64 b1] 87) := ⟨_, rfl⟩
  have e0 : w1.cell? ⟨sb, 0, none⟩ = some (.int .u64 st) := k1.cell 0
  have e1 : w1.cell? ⟨sb, 1, none⟩ = some (.int .u64 ga) := k1.cell 1
  have f0 : w1.frozen? ⟨sb, 0, none⟩ = false := k1.froz 0
  have f1 : w1.frozen? ⟨sb, 1, none⟩ = false := k1.froz 1
  have kw0 : Blk w2 pb 48 #[.slice uo out.length ucap] := by rw [hw2]; exact k0.alloc _
  have kw1 : Blk w2 sb 87 #[.int .u64 st, .int .u64 ga] := by rw [hw2]; exact k1.alloc _
  have g0 : w2.cell? ⟨sb, 0, none⟩ = some (.int .u64 st) := kw1.cell 0
  have g1 : w2.cell? ⟨sb, 1, none⟩ = some (.int .u64 ga) := kw1.cell 1
  have h0 : w2.frozen? ⟨sb, 0, none⟩ = false := kw1.froz 0
  have h1 : w2.frozen? ⟨sb, 1, none⟩ = false := kw1.froz 1
  have g2 : w2.cell? ⟨pb, 0, none⟩ = some (.slice uo out.length ucap) := kw0.cell 0
  rw [hw2] at g0 g1 g2 h0 h1
  have hne3 : sb ≠ pb := by omega
  have hne4 : pb ≠ sb := by omega
  have hne : sb ≠ w1.heap.size := by omega
  have hne2 : w1.heap.size ≠ sb := by omega
  obtain ⟨w4, hw4⟩ : ∃ w4, w4 = (w2.setCell ⟨sb, 0, none⟩ (.int .u64 a1)).setCell ⟨sb, 1, none⟩ (.int .u64 b1) := ⟨_, rfl⟩
  have hs2 : w2.heap.size = w1.heap.size + 1 := by rw [hw2]; simp
  have hs4 : w4.heap.size = w1.heap.size + 1 := by rw [hw4]; simp [World.setCell, hs2]
  have kx0 : Blk w4 pb 48 #[.slice uo out.length ucap] := by rw [hw4]; exact (kw0.other _ _ (by omega) _).other _ _ (by omega) _
  have kx1 : Blk w4 sb 87 #[.int .u64 a1, .int .u64 b1] := by rw [hw4]; exact (kw1.set 0 _).set 1 _
  have hsame4 : ∀ k, k < w.heap.size → k ≠ sb → w4.heap[k]? = w.heap[k]? := fun k hk hn => by
    rw [hw4, Below.heap_setCell _ _ _ _ hn, Below.heap_setCell _ _ _ _ hn, hw2, Below.heap_alloc w1 _ k (by omega), hb1.block k hk]
  have hrow4 : w4.ownsRow (pb + 1) 3 1 (.slice uo out.length ucap) out.length (out.map (.int .i64)) := owns_same HK.out.2.2.1 fun g hg => hsame4 g (HK.out.2.2.1.lt g hg).2 (by have := (HK.out.2.2.1.lt g hg).1; omega)
  have ht4 : Tch (fun k => k = sb) w w4 := by rw [hw4, hw2]; exact ((((Tch.of_below hb1 : Tch (fun k => k = sb) w w1).alloc _).set (p := ⟨sb, 0, none⟩) (.inl rfl) _).set (p := ⟨sb, 1, none⟩) (.inl rfl) _)
  have HIN := Lib.hid (fun (w7 : World) (g cap : Nat) h1 h2 h3 => row_next (w7 := w7) (g := g) (cap := cap) (ys := out.map (.int .i64) ++ [.int .i64 x]) (cs := #[.int .i64 x]) kx0 hrow4 h1 h2 h3)
  have H4 := Lib.hid (And.intro kx1 (And.intro hsame4 (And.intro ht4 hrow4)))
  have HW4 := Lib.hid hw4
  have HW2 := Lib.hid hw2
  clear kx0 kx1 hsame4 hrow4 ht4 hw4 k0 k1 kw0 kw1 hb1 hw2 c0 c1
  go_wp2_with (at_builtin; rw [← HW2.out, ← HW4.out]; refine wpList_push2 _ rfl _ _ 48 rfl (pb + 1) 3 i0 (.int .i64 0) 1 8 Tryz.underlying48 hi0 hz0 hz1 hz2 rfl (by decide) _ _ _ rfl (H4.out.2.2.2.alloc _) ⟨w1.heap.size + 1, 0, none⟩ 1 [.int .i64 x] rfl rfl (World.news_of_block (cs := #[.int .i64 x]) (t := 3) (fr := (0, 0)) (heap_alloc_at _ _ hs4.symm)) (one1 _ _) (by unfold maxLen; omega) (by omega) (by simp; omega) ?_)
  intro g cap w7 hown hgr hat
  obtain ⟨z0, z1, z2, z3, z4, z5, z6⟩ := HIN.out w7 g cap hown hgr (hat.imp_right fun h => by omega)
  have HZ := Lib.hid (And.intro z0 (And.intro z1 (And.intro z2 (And.intro z3 z4))))
  clear z0 z1 z2 z3 z4 hown hgr hat
  go_wp2_with fail
  go_ret
  obtain ⟨q0, q1, q2, q3, q4⟩ := HZ.out
  have hlt4 := H4.out.2.2.2.lt
  refine ⟨?_, .inl ⟨x, (⟨a1, b1⟩, out ++ [x], _), ?_, by omega, by omega, rfl, ⟨q0, ?_, ?_, ?_, ?_, HNX.out⟩, ?_, ?_⟩⟩
  · exact (H4.out.2.2.1.mono (T := (drawC pb sb W hp).own (⟨st, ga⟩, out, .slice uo out.length ucap)) fun k h => .inr (.inl h)).trans q3 fun k h => .inl (by
      rcases h with h | h
      · exact .inl h
      · exact .inr (.inr h))
  · show Except.ok ((Seed.mk st ga).below (m + 1), ((Seed.mk st ga).next, out ++ [(Seed.mk st ga).below (m + 1)])) = _
    rw [HX.out.1, HX.out.2]
    rfl
  · exact H4.out.1.same (q2 sb (by omega) hne3 fun e => by have := (hlt4 sb e).1; omega)
  · show World.ownsRow _ _ _ _ _ (out ++ [x]).length ((out ++ [x]).map (.int .i64))
    rw [List.length_append, List.map_append]
    exact q1
  · intro k hk
    rw [q2 k (by omega) (by omega) (fun e => by have := (hlt4 k e).1; omega), H4.out.2.1 k (by omega) (by omega)]
    exact HK.out.2.2.2 k hk
  · show (out ++ [x]).length ≤ 100
    simp; omega
  · show 100 - out.length ≤ 100 - (out ++ [x]).length + 1
    simp; omega
  · rintro k (hk | hk | hk)
    · exact .inl (.inl hk)
    · exact .inl (.inr (.inl hk))
    · cases hk
      rcases q4 with h | h
      · exact .inl (.inr (.inr h))
      · refine .inr ?_
        show w.heap.size ≤ g
        omega

/-! What is drawn, plainly. -/
def drawMany (m : Int) : Nat → Seed → List Int × Seed
  | 0, s => ([], s)
  | k + 1, s => ((drawMany m k s).1 ++ [(drawMany m k s).2.below (m + 1)], (drawMany m k s).2.next)
def draw : G → Seed → List Int
  | .int a b, s => [s.below (b - a + 1)]
  | .many n a b, s => s.below (n + 1) :: (drawMany (b - a) (s.below (n + 1)).toNat s.next).1
theorem draw_many (pb sb : Nat) (W : World) (hp : W.heap.size ≤ pb) (m : Int) (s : Seed) (out : List Int) : ∀ k, (drawC pb sb W hp).many m k (s, out) = .ok ((drawMany m k s).1, ((drawMany m k s).2, out ++ (drawMany m k s).1))
  | 0 => by simp [Chooser.many, drawMany]
  | k + 1 => by
    rw [Chooser.many, draw_many pb sb W hp m s out k]
    simp only [show (drawC pb sb W hp).step = fun s m => .ok (s.1.below (m + 1), (s.1.next, s.2 ++ [s.1.below (m + 1)])) from rfl]
    simp [drawMany]
theorem draw_play (pb sb : Nat) (W : World) (hp : W.heap.size ≤ pb) (g : G) (s : Seed) : ∃ x t, (drawC pb sb W hp).play g (s, []) = .ok (x, (t, draw g s)) := by
  have hs : (drawC pb sb W hp).step = fun s m => .ok (s.1.below (m + 1), (s.1.next, s.2 ++ [s.1.below (m + 1)])) := rfl
  cases g with
  | int a b => exact ⟨.num (a + s.below (b - a + 1)), s.next, by simp only [Chooser.play, hs]; rfl⟩
  | many k a b =>
    simp only [Chooser.play, hs, draw_many]
    exact ⟨_, _, rfl⟩
def DrawPost (g : G) (sd : Seed) (w : World) (e : Ending) (w' : World) : Prop :=
  Below w.heap.size w w' ∧ ∃ u, e = .returned (.tuple #[u, .nilIface]) ∧ w'.ownsRow w.heap.size 3 1 u (draw g sd).length ((draw g sd).map (.int .i64))
set_option maxRecDepth 100000 in
set_option maxHeartbeats 2000000 in
theorem draw_any (g : G) (v : Value) (hr : g.right) (st ga : Int) (hok : (Seed.mk st ga).ok) (w : World) (hv : GenAt w v g) :
    Calls Tryz.prog 123 #[v, .agg #[.int .u64 st, .int .u64 ga]] w (DrawPost g ⟨st, ga⟩ w) := by
  obtain ⟨gk, xa, gb, gao, gn, gc, hsh⟩ := hv.shape
  obtain ⟨w0, hw0⟩ : ∃ w0, w0 = (w.alloc (.cells #[.int .i64 gk, .int .i64 xa, .int .i64 gb, .slice gao gn gc] 28)).alloc (.cells #[.int .u64 st, .int .u64 ga] 87) := ⟨_, rfl⟩
  have hs0 : w0.heap.size = w.heap.size + 2 := by rw [hw0]; simp
  have hb0 : Below w.heap.size w w0 := by rw [hw0]; exact ((Below.refl w.heap.size w).alloc (Nat.le_refl _) _).alloc (by simp) _
  have k0 : Blk w0 w.heap.size 28 #[.int .i64 gk, .int .i64 xa, .int .i64 gb, .slice gao gn gc] := by rw [hw0]; exact (Blk.new _ _ _).alloc _
  have k1 : Blk w0 (w.heap.size + 1) 87 #[.int .u64 st, .int .u64 ga] := by rw [hw0]; have := Blk.new (w.alloc (.cells #[.int .i64 gk, .int .i64 xa, .int .i64 gb, .slice gao gn gc] 28)) 87 #[.int .u64 st, .int .u64 ga]; simpa using this
  have HCHK := Lib.hid (checkR_any g v hr w0 (hv.on hb0))
  obtain ⟨B, hB⟩ : ∃ B, w.heap.size = B := ⟨_, rfl⟩
  have HK := Lib.hid (And.intro hb0 (And.intro k0 k1))
  have c0 : w0.cell? ⟨B, 0, none⟩ = some (.int .i64 gk) := by rw [← hB]; exact k0.cell 0
  have c1 : w0.cell? ⟨B, 1, none⟩ = some (.int .i64 xa) := by rw [← hB]; exact k0.cell 1
  have c2 : w0.cell? ⟨B, 2, none⟩ = some (.int .i64 gb) := by rw [← hB]; exact k0.cell 2
  have c3 : w0.cell? ⟨B, 3, none⟩ = some (.slice gao gn gc) := by rw [← hB]; exact k0.cell 3
  rw [hsh] at HCHK ⊢
  rw [hw0] at HCHK c0 c1 c2 c3
  have HW0 := Lib.hid hw0
  have HV := Lib.hid (And.intro hv (And.intro hr hok))
  have HS0 := Lib.hid hs0
  clear hb0 k0 k1 hw0 hv hr hs0
  go_enter Tryz.func123, Tryz.ntmps123
  go_wp2_with fail
  refine HCHK.out.mono ?_
  clear HCHK
  rintro e w1 ⟨rfl, hb1⟩
  rw [← HW0.out] at hb1
  have hb1' := HK.out.1.trans (hb1.mono HK.out.1.size)
  obtain ⟨w2, hw2⟩ : ∃ w2, w2 = w1.alloc (.cells #[.slice none 0 0] 48) := ⟨_, rfl⟩
  have hsz1 := hb1.size
  have hs2 : w2.heap.size = w1.heap.size + 1 := by rw [hw2]; simp
  have hb2 : Below w1.heap.size w1 w2 := by rw [hw2]; exact (Below.refl _ _).alloc (Nat.le_refl _) _
  have hb2' : Below w.heap.size w w2 := hb1'.trans (hb2.mono hb1'.size)
  have kp : Blk w2 w1.heap.size 48 #[.slice none 0 0] := by rw [hw2]; exact Blk.new w1 48 #[.slice none 0 0]
  have k0 := (HK.out.2.1.below hb1).below hb2
  have k1 := (HK.out.2.2.below hb1).below hb2
  rw [hB] at k0 k1
  have hs0 := HS0.out
  rw [hB] at hs0
  obtain ⟨P, hP⟩ : ∃ P, w1.heap.size = P := ⟨_, rfl⟩
  rw [hP] at hs2 hsz1 kp hb2
  have hPB : w.heap.size ≤ P := by omega
  have hC := draw_does P (B + 1) w hPB (by omega) (by omega)
  have hmade := made_any (drawC P (B + 1) w hPB) hC g v HV.out.2.1 (⟨st, ga⟩, [], .slice none 0 0) w2 ⟨kp, k1, World.ownsRow_nil _ _ _ _, fun k hk => hb2'.block k hk, Nat.zero_le _, HV.out.2.2⟩ (by show 6 ≤ 100 - 0; omega) (HV.out.1.on hb2') (fun nn gb' h hk => by
    have hv := HV.out.1
    have hlt : gb' < w.heap.size := by
      cases g with
      | int a b => rw [show v = intG a b from hv] at h; cases h
      | many n' a b =>
        obtain ⟨gb2, h1, h2⟩ := hv
        rw [h1] at h
        cases h
        exact h2.lt
    rcases hk with rfl | rfl | hk
    · omega
    · omega
    · cases hk)
  have HMADE := Lib.hid (show Calls Tryz.prog 86 #[.func (.func 146) #[] #[.pointer (some ⟨B + 1, 0, none⟩), .pointer (some ⟨P, 0, none⟩)], v] w2 _ from hmade)
  have HK2 := Lib.hid hb2'
  rw [hsh] at HMADE
  have c0' : w2.cell? ⟨B, 0, none⟩ = some (.int .i64 gk) := k0.cell 0
  have c1' : w2.cell? ⟨B, 1, none⟩ = some (.int .i64 xa) := k0.cell 1
  have c2' : w2.cell? ⟨B, 2, none⟩ = some (.int .i64 gb) := k0.cell 2
  have c3' : w2.cell? ⟨B, 3, none⟩ = some (.slice gao gn gc) := k0.cell 3
  rw [hw2] at HMADE c0' c1' c2' c3'
  have HW2 := Lib.hid hw2
  clear hb1 hb1' hb2 hb2' kp k0 k1 hw2 hC hmade c0 c1 c2 c3 HK
  go_wp2_with fail
  refine HMADE.out.mono ?_
  clear HMADE
  rintro e w3 ⟨ht, hhow⟩
  rw [← HW2.out] at ht hhow
  have hB3 : Below w.heap.size w w3 := ((Tch.of_below (S := (drawC P (B + 1) w hPB).own (⟨st, ga⟩, [], .slice none 0 0)) HK2.out).trans ht (fun _ h => .inl h)).below (Nat.le_refl _) (fun q h => by rcases h with h | h | h; omega; omega; cases h)
  obtain ⟨x0, t0, hx0⟩ := draw_play P (B + 1) w hPB g ⟨st, ga⟩
  rcases hhow with ⟨x, t, v3, hp, rfl, hval, hfar, hI, ho⟩ | ⟨cc, hp, rfl⟩
  · replace hp : (drawC P (B + 1) w hPB).play g (⟨st, ga⟩, []) = .ok (x, (t.1, t.2.1)) := hp
    rw [hx0] at hp
    obtain ⟨t1, out, u⟩ := t
    simp only [Except.ok.injEq, Prod.mk.injEq] at hp
    obtain ⟨rfl, rfl, rfl⟩ := hp
    have g0 : w3.cell? ⟨P, 0, none⟩ = some u := hI.1.cell 0
    have HI := Lib.hid hI.2.2.1
    have HB3 := Lib.hid hB3
    clear hval hfar hI ho ht hB3
    go_wp2_with fail
    go_ret2
    exact ⟨HB3.out, u, rfl, HI.out.mono (by omega)⟩
  · replace hp : (drawC P (B + 1) w hPB).play g (⟨st, ga⟩, []) = .error cc := hp
    rw [hx0] at hp
    cases hp
end Go.Proofs.YtalbllijahiiiaaGreatDoor
end

section
namespace Go.Proofs.YtalbllijahiiiaaGreatDoor
open Go.RowKit Go.Mine Go.Mine.Desk

theorem isNaN_any (x : Int) (w : World) : Calls Tryz.prog 161 #[.int .i64 x] w fun e w' => e = .returned (.bool false) ∧ w = w' := by
  have hb : (x != x) = false := by simp
  go_enter Tryz.func161, Tryz.ntmps161
  go_wp2_with fail
  go_ret
  exact ⟨rfl, rfl⟩
def cmpI (x y : Int) : Int := if x < y then -1 else if y < x then 1 else 0
theorem compare_any (x y : Int) (w : World) : Calls Tryz.prog 140 #[.int .i64 x, .int .i64 y] w fun e w' => e = .returned (.int .i64 (cmpI x y)) ∧ w = w' := by
  by_cases h1 : x < y
  · have HE := Lib.hid (show cmpI x y = -1 by unfold cmpI; rw [if_pos h1])
    go_enter Tryz.func140, Tryz.ntmps140
    go_wp2_with fail
    refine (isNaN_any x w).mono ?_
    rintro e w1 ⟨rfl, rfl⟩
    go_wp2_with fail
    refine (isNaN_any y w).mono ?_
    rintro e w1 ⟨rfl, rfl⟩
    go_wp2_with fail
    go_ret
    exact ⟨by rw [HE.out]; rfl, rfl⟩
  · by_cases h2 : y < x
    · have HE := Lib.hid (show cmpI x y = 1 by unfold cmpI; rw [if_neg h1, if_pos h2])
      go_enter Tryz.func140, Tryz.ntmps140
      go_wp2_with fail
      refine (isNaN_any x w).mono ?_
      rintro e w1 ⟨rfl, rfl⟩
      go_wp2_with fail
      refine (isNaN_any y w).mono ?_
      rintro e w1 ⟨rfl, rfl⟩
      go_wp2_with fail
      go_ret
      exact ⟨by rw [HE.out]; rfl, rfl⟩
    · have HE := Lib.hid (show cmpI x y = 0 by unfold cmpI; rw [if_neg h1, if_neg h2])
      go_enter Tryz.func140, Tryz.ntmps140
      go_wp2_with fail
      refine (isNaN_any x w).mono ?_
      rintro e w1 ⟨rfl, rfl⟩
      go_wp2_with fail
      refine (isNaN_any y w).mono ?_
      rintro e w1 ⟨rfl, rfl⟩
      go_wp2_with fail
      go_ret
      exact ⟨by rw [HE.out]; rfl, rfl⟩
def cmpL : List Int → List Int → Int
  | x :: xs, y :: ys => if cmpI x y = 0 then cmpL xs ys else cmpI x y
  | _, _ => 0
theorem cmpL_step {xs ys : List Int} {k : Nat} (hk : k < xs.length) (hk' : k < ys.length) : cmpL (xs.drop k) (ys.drop k) = if cmpI (xs.getD k 0) (ys.getD k 0) = 0 then cmpL (xs.drop (k + 1)) (ys.drop (k + 1)) else cmpI (xs.getD k 0) (ys.getD k 0) := by
  rw [List.drop_eq_getElem_cons hk, List.drop_eq_getElem_cons hk']
  simp [cmpL, hk, hk']
theorem cmpL_neg : ∀ {a b : List Int}, cmpL a b < 0 ↔ lexLt a b = true
  | [], b => by simp [cmpL, lexLt]
  | _ :: _, [] => by simp [cmpL, lexLt]
  | x :: xs, y :: ys => by
    unfold cmpL lexLt
    by_cases e : x = y
    · subst e
      rw [if_pos (by simp [cmpI]), if_pos rfl]
      exact cmpL_neg
    · rw [if_neg e]
      by_cases h : x < y
      · rw [show cmpI x y = -1 by unfold cmpI; rw [if_pos h], if_neg (by decide)]
        simp [h]
      · rw [show cmpI x y = 1 by unfold cmpI; rw [if_neg h, if_pos (by omega)], if_neg (by decide)]
        simp [h]
set_option maxHeartbeats 600000 in
theorem compares_any (xs ys : List Int) (a b : Option Addr) (ca cb : Nat) (w : World) (hx : IntsAt .i64 w a xs) (hy : IntsAt .i64 w b ys) (hl : xs.length ≤ maxLen) (hne : xs.length = ys.length) :
    Calls Tryz.prog 117 #[.slice a xs.length ca, .slice b ys.length cb] w fun e w' => e = .returned (.int .i64 (cmpL xs ys)) ∧ w = w' := by
  unfold maxLen at hl
  have HX := Lib.hid hx; clear hx
  have HY := Lib.hid hy; clear hy
  rw [← hne]
  have HNE := Lib.hid hne; clear hne
  go_enter Tryz.func117, Tryz.ntmps117
  go_wp2_with fail
  go_loopw [11] (fun i wr => ∃ k : Nat, i = .int .i64 k ∧ k ≤ xs.length ∧ RowKit.Hid (cmpL xs ys = cmpL (xs.drop k) (ys.drop k)) ∧ w = wr) (fun i _ => xs.length - (intOf i).toNat)
  case atStart => exact ⟨0, rfl, by omega, Lib.hid (by simp), rfl⟩
  case round =>
    obtain ⟨k, rfl, hk, HT, hwr⟩ := hrel
    subst hwr
    by_cases hlt : k < xs.length
    · obtain ⟨b1, o1, rfl, hc1⟩ := HX.out k hlt
      obtain ⟨b2, o2, rfl, hc2⟩ := HY.out k (by rw [← HNE.out]; exact hlt)
      have HTS := Lib.hid (HT.out.trans (cmpL_step hlt (by rw [← HNE.out]; exact hlt)))
      obtain ⟨x, hx⟩ : ∃ x, x = xs.getD k 0 := ⟨_, rfl⟩
      obtain ⟨y, hy⟩ : ∃ y, y = ys.getD k 0 := ⟨_, rfl⟩
      rw [← hx, ← hy] at HTS
      rw [← hx] at hc1
      rw [← hy] at hc2
      clear hx hy
      go_wp2_with fail
      refine (compare_any x y w).mono ?_
      rintro e w1 ⟨rfl, rfl⟩
      obtain ⟨c, hc⟩ : ∃ c, c = cmpI x y := ⟨_, rfl⟩
      rw [← hc] at HTS ⊢
      clear hc
      by_cases h0 : c = 0
      · have hb : (c != 0) = false := by simp [h0]
        have HTN := Lib.hid (show cmpL xs ys = cmpL (xs.drop (k + 1)) (ys.drop (k + 1)) by rw [HTS.out, if_pos h0])
        clear h0
        go_wp2_with fail
        go_roundw
        case rel => exact ⟨k + 1, by go_num, by omega, HTN, trivial⟩
        case measure => simp [intOf]; omega
      · have hb : (c != 0) = true := by rw [bne_iff_ne]; exact h0
        have HTN := Lib.hid (show cmpL xs ys = c by rw [HTS.out, if_neg h0])
        clear h0
        go_wp2_with fail
        go_ret
        exact ⟨by rw [HTN.out]; rfl, rfl⟩
    · obtain rfl : k = xs.length := by omega
      have HE := Lib.hid (show cmpL xs ys = 0 by rw [HT.out, List.drop_length]; rfl)
      go_wp2_with fail
      go_ret
      exact ⟨by rw [HE.out]; rfl, rfl⟩
theorem tapeLess_any (xs ys : List Int) (a b : Option Addr) (ca cb : Nat) (w : World) (hx : IntsAt .i64 w a xs) (hy : IntsAt .i64 w b ys) (hl : xs.length ≤ maxLen) (_hl2 : ys.length ≤ maxLen) :
    Calls Tryz.prog 90 #[.slice a xs.length ca, .slice b ys.length cb] w fun e w' => e = .returned (.bool (tapeLt xs ys)) ∧ w = w' := by
  by_cases hne : xs.length = ys.length
  · have HC := Lib.hid (compares_any xs ys a b ca cb w hx hy hl hne)
    unfold maxLen at hl
    have HR := Lib.hid (show tapeLt xs ys = decide (cmpL xs ys < 0) by
      unfold tapeLt
      rw [if_pos hne, Bool.eq_iff_iff, decide_eq_true_iff]
      exact cmpL_neg.symm)
    have hb : ((xs.length : Int) != (ys.length : Int)) = false := by simp [hne]
    clear hx hy hne
    go_enter Tryz.func90, Tryz.ntmps90
    go_wp2_with fail
    refine HC.out.mono ?_
    rintro e w1 ⟨rfl, rfl⟩
    go_wp2_with fail
    go_ret
    exact ⟨by rw [HR.out]; rfl, rfl⟩
  · have HE := Lib.hid (show tapeLt xs ys = decide (xs.length < ys.length) by unfold tapeLt; rw [if_neg hne])
    unfold maxLen at hl
    have hb : ((xs.length : Int) != (ys.length : Int)) = true := by rw [bne_iff_ne]; omega
    have hb2 : ((xs.length : Int) == (ys.length : Int)) = false := by rw [beq_eq_false_iff_ne]; omega
    clear hx hy hne
    go_enter Tryz.func90, Tryz.ntmps90
    go_wp2_with fail
    go_ret
    exact ⟨by rw [HE.out]; simp, rfl⟩

/-! tape.Check -/
def TapeFault (ts : List Int) (w : World) (e : Ending) (w' : World) : Prop := e = .returned (if tapeOk ts then .nilIface else .iface 36 (.int .i64 1)) ∧ w' = w
theorem tape_check_any (ts : List Int) (ao : Option Addr) (n c : Nat) (hn : ts.length = n) (hl : n ≤ maxLen) (w : World) (hat : IntsAt .i64 w ao ts) :
    Calls Tryz.prog 115 #[.slice ao n c] w (TapeFault ts w) := by
  have hl' : n ≤ 9223372036854775807 := by unfold maxLen at hl; omega
  obtain ⟨w2, hw2⟩ : ∃ w2, w2 = w := ⟨_, rfl⟩
  have HEND : ∀ wr b, RowKit.Hid (wr = w2) → tapeOk ts = b → TapeFault ts w (.returned (if b then .nilIface else .iface 36 (.int .i64 1))) wr := fun wr b h hb => ⟨by rw [hb], h.out.trans hw2⟩
  have HE1 := Lib.hid HEND
  clear HEND
  go_enter Tryz.func115, Tryz.ntmps115
  go_wp2_with fail
  go_loopw [4, 7] (fun _ kv wr => ∃ k : Nat, kv = .int .i64 (k : Int) ∧ k ≤ n ∧ RowKit.Hid (tapeOk (ts.take k) = true) ∧ RowKit.Hid (wr = w2)) (fun _ kv _ => n - (intOf kv).toNat)
  case atStart => exact ⟨0, rfl, by omega, Lib.hid rfl, Lib.hid hw2.symm⟩
  case round =>
    obtain ⟨k, rfl, hk, HK, hwr⟩ := hrel
    rcases Nat.lt_or_ge k n with hkn | hkn
    · obtain ⟨b, o, rfl, hx⟩ := hat k (by omega)
      rw [← hw2, ← hwr.out] at hx
      have hmem : ts[k]? = some (ts.getD k 0) := by simp [show k < ts.length by omega]
      have hgd : k < ts.length := by omega
      obtain ⟨x, hxe⟩ : ∃ x, ts.getD k 0 = x := ⟨_, rfl⟩
      rw [hxe] at hx hmem
      have hi0 : (0 : Int) ≤ (k : Int) := by omega
      have hi1 : (k : Int) < (n : Int) := by omega
      have HM := Lib.hid hmem
      clear hmem hxe
      by_cases hbad : x < 0 ∨ 1000 < x
      · have HE := Lib.hid (show tapeOk ts = false by
          rw [Bool.eq_false_iff]
          intro h
          rw [tapeOk, List.all_eq_true] at h
          have := h x (List.mem_of_getElem? HM.out)
          simp at this
          omega)
        have HEND := Lib.hid (HE1.out wr false hwr HE.out)
        rcases Int.lt_or_le x 0 with h0 | h0
        · go_wp2_with fail
          go_ret
          exact HEND.out
        · have h1 : 1000 < x := by omega
          have h2 : ¬ x < 0 := by omega
          go_wp2_with fail
          go_ret
          exact HEND.out
      · have h1 : ¬ x < 0 := by omega
        have h2 : ¬ 1000 < x := by omega
        have hw1 : IntKind.i64.wrap ((k : Int) + 1) = ((k + 1 : Nat) : Int) := by rw [IntWalk.i64_in _ (by omega)]; omega
        go_wp2_with fail
        go_roundw
        case rel => exact ⟨k + 1, by go_num, by omega, Lib.hid (by
          rw [List.take_add_one, HM.out, tapeOk, List.all_append, show (ts.take k).all _ = true from HK.out]
          simp; omega), hwr⟩
        case measure => simp [intOf]; omega
    · obtain rfl : k = n := by omega
      have HE := Lib.hid (show tapeOk ts = true by have := HK.out; rwa [List.take_of_length_le (by omega)] at this)
      have HEND := Lib.hid (HE1.out wr true hwr HE.out)
      go_wp2_with fail
      go_ret
      exact HEND.out
end Go.Proofs.YtalbllijahiiiaaGreatDoor
end

section
namespace Go.Proofs.YtalbllijahiiiaaGreatDoor
open Go.RowKit Go.Mine Go.Mine.Desk

theorem infoStr : (Tryz.prog.info? 9).map (fun i => (i.zero, i.size, i.bytes)) = some (some (.string ⟨#[]⟩), 1, 16) := by kernel_rfl
theorem join_len {c : UInt8} {m : Nat} : ∀ (l : List Bytes), (∀ x ∈ l, x.length ≤ m) → (Go.Lib.join l [c]).length ≤ (m + 1) * l.length
  | [], _ => by simp [Go.Lib.join_nil]
  | [x], h => by
    rw [Go.Lib.join_one]
    have := h x (by simp)
    simp; omega
  | x :: y :: r, h => by
    have ih := join_len (c := c) (y :: r) (fun z hz => h z (List.mem_cons_of_mem _ hz))
    have h1 := h x (by simp)
    rw [Go.Lib.join_cons] at ih ⊢
    have hp : (m + 1) * (x :: y :: r).length = (m + 1) * (y :: r).length + (m + 1) := by rw [List.length_cons, Nat.mul_succ]
    rw [hp]
    simp only [Go.Lib.joinTail, List.map_cons, List.flatten_cons, List.length_append, List.length_cons, List.length_nil] at ih ⊢
    generalize (m + 1) * (r.length + 1) = q at ih ⊢
    omega
def bas (l : List Bytes) : List ByteArray := l.map fun s => ⟨s.toArray⟩
theorem bas_back (l : List Bytes) : (bas l).map (·.data.toList) = l := by
  simp [bas, List.map_map, Function.comp_def]
theorem join_any (l : List Bytes) (c : UInt8) (v : Value) (base : Nat) (m : Nat) (hm : m ≤ 2000000) (hl : l.length ≤ 2000000) (hb : ∀ x ∈ l, x.length ≤ m) (w : World) (hown : w.ownsRow base 9 1 v l.length (l.map str)) :
    Calls Tryz.prog 63 #[v, str [c]] w fun e w' => e = .returned (str (Go.Lib.join l [c])) ∧ Below w.heap.size w w' := by
  have hj := join_len (c := c) l hb
  have hm2 : (m + 1) * l.length ≤ 2000001 * 2000000 := Nat.mul_le_mul (by omega) hl
  rcases hown.2 with ⟨rfl, h0⟩ | ⟨g, cap, cur, rfl, hg, hbk, hcap, hmx, hsz, htk⟩
  · obtain rfl : l = [] := List.eq_nil_of_length_eq_zero h0
    refine (Tryz.strings_Join_none none 0 ⟨[c].toArray⟩ w).mono ?_
    rintro e w' ⟨rfl, rfl⟩
    exact ⟨rfl, Below.refl _ _⟩
  · have hlen : (bas l).length = l.length := by simp [bas]
    have h := Tryz.strings_Join g 0 cap (bas l) ⟨[c].toArray⟩ w (fun j x hx => by
      have hj' : j < l.length := by
        have := (List.getElem?_eq_some_iff.1 hx).1
        omega
      have h1 := hown.cellAt j (by omega)
      rw [Nat.zero_add, h1]
      simp [bas, hj'] at hx ⊢
      rw [← hx]) (Array.getElem?_eq_some_iff.1 hbk).1 (by omega) (by omega) (by rw [bas_back]; simpa using (by omega : (Go.Lib.join l [c]).length ≤ 140737488355328))
    rw [hlen, bas_back] at h
    exact h
theorem text_len {ts : List Int} (hts : ∀ x ∈ ts, i64ok x) : ∀ s ∈ ts.map Go.Lib.itoa, s.length ≤ 21 := by
  intro s hs
  obtain ⟨x, hx, rfl⟩ := List.mem_map.1 hs
  exact Go.Lib.itoa_length_le x (hts x hx).1 (hts x hx).2
theorem str1 (s : Bytes) : ∀ u ∈ [str s], u.oneCell' = true := by intro u hu; simp at hu; subst hu; rfl
set_option maxRecDepth 100000 in
set_option maxHeartbeats 1000000 in
theorem tape_text_any (ts : List Int) (ao : Option Addr) (n c : Nat) (hn : ts.length = n) (hl : n ≤ 2000000) (hts : ∀ x ∈ ts, i64ok x) (w : World) (hg : Gl w) (hat : IntsAt .i64 w ao ts) :
    Calls Tryz.prog 52 #[.slice ao n c] w fun e w' => e = .returned (str (ttext ts)) ∧ Below w.heap.size w w' := by
  obtain ⟨i0, hi0, hz0, hz1, hz2⟩ := info_parts infoStr
  obtain ⟨w2, hw2⟩ : ∃ w2, w2 = w := ⟨_, rfl⟩
  rw [← hw2] at hat hg ⊢
  clear hw2 w
  go_enter Tryz.func52, Tryz.ntmps52
  go_wp2_with fail
  go_loopw [3, 5, 8] (fun tv _ kv wr => ∃ k : Nat, kv = .int .i64 (k : Int) ∧ k ≤ n ∧ RowKit.Hid (Below w2.heap.size w2 wr ∧ wr.ownsRow w2.heap.size 9 1 tv k (((ts.take k).map Go.Lib.itoa).map str))) (fun _ _ kv _ => n - (intOf kv).toNat)
  case atStart => exact ⟨0, rfl, by omega, Lib.hid ⟨Below.refl _ _, World.ownsRow_nil _ _ _ _⟩⟩
  case round =>
    obtain ⟨k, rfl, hk, HK⟩ := hrel
    rcases Nat.lt_or_ge k n with hkn | hkn
    · obtain ⟨b, o, rfl, hx0⟩ := hat k (by omega)
      have hx := (HK.out.1.cell (World.block_lt_of_cell? w2 _ hx0)).trans hx0
      have hmem : ts[k]? = some (ts.getD k 0) := by simp [show k < ts.length by omega]
      obtain ⟨x, hxe⟩ : ∃ x, ts.getD k 0 = x := ⟨_, rfl⟩
      rw [hxe] at hx hmem
      have hi0' : (0 : Int) ≤ (k : Int) := by omega
      have hi1 : (k : Int) < (n : Int) := by omega
      have hw1 : IntKind.i64.wrap ((k : Int) + 1) = ((k + 1 : Nat) : Int) := by rw [IntWalk.i64_in _ (by omega)]; omega
      have HC := Lib.hid (itoa_any x (hts x (List.mem_of_getElem? hmem)) wr (hg.on HK.out.1))
      have HM := Lib.hid hmem
      clear hmem hxe hx0
      go_wp2_with fail
      refine HC.out.mono ?_
      clear HC
      rintro e w3 ⟨rfl, hb3⟩
      have hb3' := HK.out.1.trans (hb3.mono HK.out.1.size)
      have HO := Lib.hid (owns_below HK.out.2 hb3)
      have HB := Lib.hid hb3'
      have hsz := hb3'.size
      clear hb3 hb3'
      go_wp2_with (at_builtin; refine wpList_push2 _ rfl _ _ 23 rfl w2.heap.size 9 i0 (.string ⟨#[]⟩) 1 16 Tryz.underlying23 hi0 hz0 hz1 hz2 rfl (by decide) _ _ _ rfl (HO.out.alloc _) ⟨w3.heap.size, 0, none⟩ 1 [str (Go.Lib.itoa x)] rfl rfl (World.news_of_block (cs := #[str (Go.Lib.itoa x)]) (t := 9) (fr := (0, 0)) (heap_alloc_at _ _ rfl)) (str1 _) (by unfold maxLen; omega) (by omega) (by simp; omega) ?_)
      intro g cap w7 hown hgr hat7
      have HB7 := Lib.hid ((HB.out.alloc hsz (.cells #[str (Go.Lib.itoa x)] 9)).grown hgr (by simp; omega) (fun q hq => (HO.out.lt q hq).1))
      have HO7 := Lib.hid (show w7.ownsRow w2.heap.size 9 1 (.slice (some ⟨g, 0, none⟩) (k + 1) cap) (k + 1) (((ts.take (k + 1)).map Go.Lib.itoa).map str) by
        rw [List.take_add_one, HM.out]
        simpa using hown)
      clear hown hgr hat7
      go_wp2_with fail
      go_roundw
      case rel => exact ⟨k + 1, by go_num, by omega, Lib.hid ⟨HB7.out, HO7.out⟩⟩
      case measure => simp [intOf]; omega
    · obtain rfl : k = n := by omega
      have hO := HK.out.2
      rw [List.take_of_length_le (by omega)] at hO
      have HC := Lib.hid (join_any (ts.map Go.Lib.itoa) 46 _ _ 21 (by omega) (by simp; omega) (text_len hts) wr (by rw [List.length_map, hn]; exact hO))
      go_wp2_with fail
      refine HC.out.mono ?_
      rintro e w3 ⟨rfl, hb3⟩
      have HB := Lib.hid (HK.out.1.trans (hb3.mono HK.out.1.size))
      go_wp2_with fail
      go_ret
      exact ⟨rfl, HB.out⟩
end Go.Proofs.YtalbllijahiiiaaGreatDoor
end
