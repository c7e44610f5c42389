/- gen.Draw. -/
import Derived.Test.YtalbllijahiiiaaGreatDoorDesk8
namespace Go.Proofs.YtalbllijahiiiaaGreatDoor
open Go.RowKit Go.Mine Go.Mine.Desk

/-- A number more in a row whose slice lies in a cell. -/
theorem row_next {pb : Nat} {T : TypeId} {u : Value} {w w7 : World} {L g cap : Nat} {xs ys : List Value} {cs : Array Value}
    (k0 : Blk w pb T #[u]) (k2 : w.ownsRow (pb + 1) 3 1 u L xs) (hown : w7.ownsRow (pb + 1) 3 1 (.slice (some ⟨g, 0, none⟩) (L + 1) cap) (L + 1) ys) (hgr : (w.alloc (.cells cs 3)).grownBy w7 u.ownBlock) (hat : u.ownBlock = some g ∨ g = w.heap.size + 1) :
    Blk (w7.setCell ⟨pb, 0, none⟩ (.slice (some ⟨g, 0, none⟩) (L + 1) cap)) pb T #[.slice (some ⟨g, 0, none⟩) (L + 1) cap] ∧
    (w7.setCell ⟨pb, 0, none⟩ (.slice (some ⟨g, 0, none⟩) (L + 1) cap)).ownsRow (pb + 1) 3 1 (.slice (some ⟨g, 0, none⟩) (L + 1) cap) (L + 1) ys ∧
    (∀ k, k < w.heap.size → k ≠ pb → u.ownBlock ≠ some k → (w7.setCell ⟨pb, 0, none⟩ (.slice (some ⟨g, 0, none⟩) (L + 1) cap)).heap[k]? = w.heap[k]?) ∧
    Tch (fun k => k = pb ∨ u.ownBlock = some k) w (w7.setCell ⟨pb, 0, none⟩ (.slice (some ⟨g, 0, none⟩) (L + 1) cap)) ∧ (u.ownBlock = some g ∨ w.heap.size ≤ g) ∧
    w7.cell? ⟨pb, 0, none⟩ = some u ∧ w7.frozen? ⟨pb, 0, none⟩ = false := by
  have hl0 := k0.lt
  have hlt := k2.lt
  have hb : ∀ k, k < w.heap.size → u.ownBlock ≠ some k → w7.heap[k]? = w.heap[k]? := fun k hk hn => by
    rw [hgr.block k (by simp; omega) (fun e => hn e.symm), Below.heap_alloc w _ k hk]
  have hP : ∀ k, k ≤ pb → u.ownBlock ≠ some k := fun k hk e => by have := (hlt k e).1; omega
  have hg : g ≠ pb := by
    rcases hat with h | h
    · have := (hlt g h).1; omega
    · omega
  have k7 := k0.same (hb _ hl0 (hP _ (Nat.le_refl _)))
  refine ⟨k7.set 0 _, owns_same hown fun g' hg' => by cases hg'; exact Below.heap_setCell _ _ _ _ hg, fun k hk hn hu => ?_, ?_, hat.imp_right fun h => by omega, k7.cell 0, k7.froz 0⟩
  · rw [Below.heap_setCell _ _ _ _ hn, hb k hk hu]
  · exact (((Tch.refl _ w).alloc (.cells cs 3)).grown hgr fun k hk => .inl (.inr hk)).set (.inl (.inl rfl)) _
theorem draw_enters (lb : Array Value) (v : Value) (w : World) : Sem.run Tryz.prog (callFunc 146 (#[v] ++ lb)) w = .ok (.enter 146 (#[v] ++ lb)) w := by kernel_rfl
def drawC (pb sb : Nat) (W : World) (hp : W.heap.size ≤ pb) : Chooser (Seed × List Int × Value) (Seed × List Int) where
  gf := 146
  caps := #[.pointer (some ⟨sb, 0, none⟩), .pointer (some ⟨pb, 0, none⟩)]
  I s w := Blk w pb 48 #[s.2.2] ∧ Blk w sb 87 #[.int .u64 s.1.st, .int .u64 s.1.ga] ∧ w.ownsRow (pb + 1) 3 1 s.2.2 s.2.1.length (s.2.1.map (.int .i64)) ∧ (∀ k, k < W.heap.size → w.heap[k]? = W.heap[k]?) ∧ s.2.1.length ≤ 100 ∧ s.1.ok
  own s k := k = pb ∨ k = sb ∨ s.2.2.ownBlock = some k
  abs s := (s.1, s.2.1)
  step s m := .ok (s.1.below (m + 1), (s.1.next, s.2 ++ [s.1.below (m + 1)]))
  lo := W.heap.size
  room s := 100 - s.2.1.length
  keep s w w' h h1 h2 := ⟨h.1.same (h1 pb (.inl rfl)), h.2.1.same (h1 sb (.inr (.inl rfl))), owns_same h.2.2.1 fun g hg => h1 g (.inr (.inr hg)), fun k hk => (h2 k hk).trans (h.2.2.2.1 k hk), h.2.2.2.2⟩
  low s w h := by have := h.1.lt; omega
  lt s w k h hk := by
    rcases hk with rfl | rfl | hk
    · exact h.1.lt
    · exact h.2.1.lt
    · exact (h.2.2.1.lt k hk).2
  enters := draw_enters _
set_option maxRecDepth 100000 in
set_option maxHeartbeats 1000000 in
theorem draw_does (pb sb : Nat) (W : World) (hp : W.heap.size ≤ pb) (hsb : sb < pb) (hw : W.heap.size ≤ sb) : (drawC pb sb W hp).Does := by
  rintro ⟨⟨st, ga⟩, out, u⟩ w m hI hrm hm0 hm1
  replace hrm : out.length < 100 := by have : 0 < 100 - out.length := hrm; omega
  show Calls Tryz.prog 146 #[.int .i64 m, .pointer (some ⟨sb, 0, none⟩), .pointer (some ⟨pb, 0, none⟩)] w _
  obtain ⟨k0, k1, k2, k3, k4, hok⟩ := id hI
  replace k2 : w.ownsRow (pb + 1) 3 1 u out.length (out.map (.int .i64)) := k2
  replace hok : (Seed.mk st ga).ok := hok
  obtain ⟨uo, ucap, rfl⟩ := owns_shape k2
  have c0 : w.cell? ⟨sb, 0, none⟩ = some (.int .u64 st) := k1.cell 0
  have c1 : w.cell? ⟨sb, 1, none⟩ = some (.int .u64 ga) := k1.cell 1
  have hb := Seed.below_b ⟨st, ga⟩ (show 1 ≤ m + 1 by omega)
  have hw1 : IntKind.i64.wrap (m + 1) = m + 1 := IntWalk.i64_in _ (by omega)
  have HC := Lib.hid (below_any st ga hok (m + 1) (by omega) w)
  have HNX := Lib.hid (Seed.next_ok hok)
  obtain ⟨x, hx⟩ : ∃ x, (Seed.mk st ga).below (m + 1) = x := ⟨_, rfl⟩
  obtain ⟨nx, hnx⟩ : ∃ nx, (Seed.mk st ga).next = nx := ⟨_, rfl⟩
  obtain ⟨a1, b1⟩ := nx
  rw [hx, hnx] at HC
  rw [hnx] at HNX
  rw [hx] at hb
  have HX := Lib.hid (And.intro hx hnx)
  have HK := Lib.hid (And.intro k0 (And.intro k1 (And.intro k2 k3)))
  have hm1' : m + 1 ≤ 1001 := by omega
  obtain ⟨i0, hi0, hz0, hz1, hz2⟩ := info_parts infoI3d
  clear hx hnx hok k0 k1 k2 k3 k4 hI
  go_enter Tryz.func146, Tryz.ntmps146
  go_wp2_with fail
  refine HC.out.mono ?_
  clear HC
  rintro e w1 ⟨rfl, hb1⟩
  have k0 := HK.out.1.below hb1
  have k1 := HK.out.2.1.below hb1
  have hpl := HK.out.1.lt
  have hs1 := hb1.size
  obtain ⟨w2, hw2⟩ : ∃ w2, w2 = w1.alloc (.cells #[.int .u64 a1, .int .u64 b1] 87) := ⟨_, rfl⟩
  have e0 : w1.cell? ⟨sb, 0, none⟩ = some (.int .u64 st) := k1.cell 0
  have e1 : w1.cell? ⟨sb, 1, none⟩ = some (.int .u64 ga) := k1.cell 1
  have f0 : w1.frozen? ⟨sb, 0, none⟩ = false := k1.froz 0
  have f1 : w1.frozen? ⟨sb, 1, none⟩ = false := k1.froz 1
  have kw0 : Blk w2 pb 48 #[.slice uo out.length ucap] := by rw [hw2]; exact k0.alloc _
  have kw1 : Blk w2 sb 87 #[.int .u64 st, .int .u64 ga] := by rw [hw2]; exact k1.alloc _
  have g0 : w2.cell? ⟨sb, 0, none⟩ = some (.int .u64 st) := kw1.cell 0
  have g1 : w2.cell? ⟨sb, 1, none⟩ = some (.int .u64 ga) := kw1.cell 1
  have h0 : w2.frozen? ⟨sb, 0, none⟩ = false := kw1.froz 0
  have h1 : w2.frozen? ⟨sb, 1, none⟩ = false := kw1.froz 1
  have g2 : w2.cell? ⟨pb, 0, none⟩ = some (.slice uo out.length ucap) := kw0.cell 0
  rw [hw2] at g0 g1 g2 h0 h1
  have hne3 : sb ≠ pb := by omega
  have hne4 : pb ≠ sb := by omega
  have hne : sb ≠ w1.heap.size := by omega
  have hne2 : w1.heap.size ≠ sb := by omega
  obtain ⟨w4, hw4⟩ : ∃ w4, w4 = (w2.setCell ⟨sb, 0, none⟩ (.int .u64 a1)).setCell ⟨sb, 1, none⟩ (.int .u64 b1) := ⟨_, rfl⟩
  have hs2 : w2.heap.size = w1.heap.size + 1 := by rw [hw2]; simp
  have hs4 : w4.heap.size = w1.heap.size + 1 := by rw [hw4]; simp [World.setCell, hs2]
  have kx0 : Blk w4 pb 48 #[.slice uo out.length ucap] := by rw [hw4]; exact (kw0.other _ _ (by omega) _).other _ _ (by omega) _
  have kx1 : Blk w4 sb 87 #[.int .u64 a1, .int .u64 b1] := by rw [hw4]; exact (kw1.set 0 _).set 1 _
  have hsame4 : ∀ k, k < w.heap.size → k ≠ sb → w4.heap[k]? = w.heap[k]? := fun k hk hn => by
    rw [hw4, Below.heap_setCell _ _ _ _ hn, Below.heap_setCell _ _ _ _ hn, hw2, Below.heap_alloc w1 _ k (by omega), hb1.block k hk]
  have hrow4 : w4.ownsRow (pb + 1) 3 1 (.slice uo out.length ucap) out.length (out.map (.int .i64)) := owns_same HK.out.2.2.1 fun g hg => hsame4 g (HK.out.2.2.1.lt g hg).2 (by have := (HK.out.2.2.1.lt g hg).1; omega)
  have ht4 : Tch (fun k => k = sb) w w4 := by rw [hw4, hw2]; exact ((((Tch.of_below hb1 : Tch (fun k => k = sb) w w1).alloc _).set (p := ⟨sb, 0, none⟩) (.inl rfl) _).set (p := ⟨sb, 1, none⟩) (.inl rfl) _)
  have HIN := Lib.hid (fun (w7 : World) (g cap : Nat) h1 h2 h3 => row_next (w7 := w7) (g := g) (cap := cap) (ys := out.map (.int .i64) ++ [.int .i64 x]) (cs := #[.int .i64 x]) kx0 hrow4 h1 h2 h3)
  have H4 := Lib.hid (And.intro kx1 (And.intro hsame4 (And.intro ht4 hrow4)))
  have HW4 := Lib.hid hw4
  have HW2 := Lib.hid hw2
  clear kx0 kx1 hsame4 hrow4 ht4 hw4 k0 k1 kw0 kw1 hb1 hw2 c0 c1
  go_wp2_with (at_builtin; rw [← HW2.out, ← HW4.out]; refine wpList_push2 _ rfl _ _ 48 rfl (pb + 1) 3 i0 (.int .i64 0) 1 8 Tryz.underlying48 hi0 hz0 hz1 hz2 rfl (by decide) _ _ _ rfl (H4.out.2.2.2.alloc _) ⟨w1.heap.size + 1, 0, none⟩ 1 [.int .i64 x] rfl rfl (World.news_of_block (cs := #[.int .i64 x]) (t := 3) (fr := (0, 0)) (heap_alloc_at _ _ hs4.symm)) (one1 _ _) (by unfold maxLen; omega) (by omega) (by simp; omega) ?_)
  intro g cap w7 hown hgr hat
  obtain ⟨z0, z1, z2, z3, z4, z5, z6⟩ := HIN.out w7 g cap hown hgr (hat.imp_right fun h => by omega)
  have HZ := Lib.hid (And.intro z0 (And.intro z1 (And.intro z2 (And.intro z3 z4))))
  clear z0 z1 z2 z3 z4 hown hgr hat
  go_wp2_with fail
  go_ret
  obtain ⟨q0, q1, q2, q3, q4⟩ := HZ.out
  have hlt4 := H4.out.2.2.2.lt
  refine ⟨?_, .inl ⟨x, (⟨a1, b1⟩, out ++ [x], _), ?_, by omega, by omega, rfl, ⟨q0, ?_, ?_, ?_, ?_, HNX.out⟩, ?_, ?_⟩⟩
  · exact (H4.out.2.2.1.mono (T := (drawC pb sb W hp).own (⟨st, ga⟩, out, .slice uo out.length ucap)) fun k h => .inr (.inl h)).trans q3 fun k h => .inl (by
      rcases h with h | h
      · exact .inl h
      · exact .inr (.inr h))
  · show Except.ok ((Seed.mk st ga).below (m + 1), ((Seed.mk st ga).next, out ++ [(Seed.mk st ga).below (m + 1)])) = _
    rw [HX.out.1, HX.out.2]
    rfl
  · exact H4.out.1.same (q2 sb (by omega) hne3 fun e => by have := (hlt4 sb e).1; omega)
  · show World.ownsRow _ _ _ _ _ (out ++ [x]).length ((out ++ [x]).map (.int .i64))
    rw [List.length_append, List.map_append]
    exact q1
  · intro k hk
    rw [q2 k (by omega) (by omega) (fun e => by have := (hlt4 k e).1; omega), H4.out.2.1 k (by omega) (by omega)]
    exact HK.out.2.2.2 k hk
  · show (out ++ [x]).length ≤ 100
    simp; omega
  · show 100 - out.length ≤ 100 - (out ++ [x]).length + 1
    simp; omega
  · rintro k (hk | hk | hk)
    · exact .inl (.inl hk)
    · exact .inl (.inr (.inl hk))
    · cases hk
      rcases q4 with h | h
      · exact .inl (.inr (.inr h))
      · refine .inr ?_
        show w.heap.size ≤ g
        omega

/-! What is drawn, plainly. -/
def drawMany (m : Int) : Nat → Seed → List Int × Seed
  | 0, s => ([], s)
  | k + 1, s => ((drawMany m k s).1 ++ [(drawMany m k s).2.below (m + 1)], (drawMany m k s).2.next)
def draw : G → Seed → List Int
  | .int a b, s => [s.below (b - a + 1)]
  | .many n a b, s => s.below (n + 1) :: (drawMany (b - a) (s.below (n + 1)).toNat s.next).1
theorem draw_many (pb sb : Nat) (W : World) (hp : W.heap.size ≤ pb) (m : Int) (s : Seed) (out : List Int) : ∀ k, (drawC pb sb W hp).many m k (s, out) = .ok ((drawMany m k s).1, ((drawMany m k s).2, out ++ (drawMany m k s).1))
  | 0 => by simp [Chooser.many, drawMany]
  | k + 1 => by
    rw [Chooser.many, draw_many pb sb W hp m s out k]
    simp only [show (drawC pb sb W hp).step = fun s m => .ok (s.1.below (m + 1), (s.1.next, s.2 ++ [s.1.below (m + 1)])) from rfl]
    simp [drawMany]
theorem draw_play (pb sb : Nat) (W : World) (hp : W.heap.size ≤ pb) (g : G) (s : Seed) : ∃ x t, (drawC pb sb W hp).play g (s, []) = .ok (x, (t, draw g s)) := by
  have hs : (drawC pb sb W hp).step = fun s m => .ok (s.1.below (m + 1), (s.1.next, s.2 ++ [s.1.below (m + 1)])) := rfl
  cases g with
  | int a b => exact ⟨.num (a + s.below (b - a + 1)), s.next, by simp only [Chooser.play, hs]; rfl⟩
  | many k a b =>
    simp only [Chooser.play, hs, draw_many]
    exact ⟨_, _, rfl⟩
def DrawPost (g : G) (sd : Seed) (w : World) (e : Ending) (w' : World) : Prop :=
  Below w.heap.size w w' ∧ ∃ u, e = .returned (.tuple #[u, .nilIface]) ∧ w'.ownsRow w.heap.size 3 1 u (draw g sd).length ((draw g sd).map (.int .i64))
set_option maxRecDepth 100000 in
set_option maxHeartbeats 2000000 in
theorem draw_any (g : G) (v : Value) (hr : g.right) (st ga : Int) (hok : (Seed.mk st ga).ok) (w : World) (hv : GenAt w v g) :
    Calls Tryz.prog 123 #[v, .agg #[.int .u64 st, .int .u64 ga]] w (DrawPost g ⟨st, ga⟩ w) := by
  obtain ⟨gk, xa, gb, gao, gn, gc, hsh⟩ := hv.shape
  obtain ⟨w0, hw0⟩ : ∃ w0, w0 = (w.alloc (.cells #[.int .i64 gk, .int .i64 xa, .int .i64 gb, .slice gao gn gc] 28)).alloc (.cells #[.int .u64 st, .int .u64 ga] 87) := ⟨_, rfl⟩
  have hs0 : w0.heap.size = w.heap.size + 2 := by rw [hw0]; simp
  have hb0 : Below w.heap.size w w0 := by rw [hw0]; exact ((Below.refl w.heap.size w).alloc (Nat.le_refl _) _).alloc (by simp) _
  have k0 : Blk w0 w.heap.size 28 #[.int .i64 gk, .int .i64 xa, .int .i64 gb, .slice gao gn gc] := by rw [hw0]; exact (Blk.new _ _ _).alloc _
  have k1 : Blk w0 (w.heap.size + 1) 87 #[.int .u64 st, .int .u64 ga] := by rw [hw0]; have := Blk.new (w.alloc (.cells #[.int .i64 gk, .int .i64 xa, .int .i64 gb, .slice gao gn gc] 28)) 87 #[.int .u64 st, .int .u64 ga]; simpa using this
  have HCHK := Lib.hid (checkR_any g v hr w0 (hv.on hb0))
  obtain ⟨B, hB⟩ : ∃ B, w.heap.size = B := ⟨_, rfl⟩
  have HK := Lib.hid (And.intro hb0 (And.intro k0 k1))
  have c0 : w0.cell? ⟨B, 0, none⟩ = some (.int .i64 gk) := by rw [← hB]; exact k0.cell 0
  have c1 : w0.cell? ⟨B, 1, none⟩ = some (.int .i64 xa) := by rw [← hB]; exact k0.cell 1
  have c2 : w0.cell? ⟨B, 2, none⟩ = some (.int .i64 gb) := by rw [← hB]; exact k0.cell 2
  have c3 : w0.cell? ⟨B, 3, none⟩ = some (.slice gao gn gc) := by rw [← hB]; exact k0.cell 3
  rw [hsh] at HCHK ⊢
  rw [hw0] at HCHK c0 c1 c2 c3
  have HW0 := Lib.hid hw0
  have HV := Lib.hid (And.intro hv (And.intro hr hok))
  have HS0 := Lib.hid hs0
  clear hb0 k0 k1 hw0 hv hr hs0
  go_enter Tryz.func123, Tryz.ntmps123
  go_wp2_with fail
  refine HCHK.out.mono ?_
  clear HCHK
  rintro e w1 ⟨rfl, hb1⟩
  rw [← HW0.out] at hb1
  have hb1' := HK.out.1.trans (hb1.mono HK.out.1.size)
  obtain ⟨w2, hw2⟩ : ∃ w2, w2 = w1.alloc (.cells #[.slice none 0 0] 48) := ⟨_, rfl⟩
  have hsz1 := hb1.size
  have hs2 : w2.heap.size = w1.heap.size + 1 := by rw [hw2]; simp
  have hb2 : Below w1.heap.size w1 w2 := by rw [hw2]; exact (Below.refl _ _).alloc (Nat.le_refl _) _
  have hb2' : Below w.heap.size w w2 := hb1'.trans (hb2.mono hb1'.size)
  have kp : Blk w2 w1.heap.size 48 #[.slice none 0 0] := by rw [hw2]; exact Blk.new w1 48 #[.slice none 0 0]
  have k0 := (HK.out.2.1.below hb1).below hb2
  have k1 := (HK.out.2.2.below hb1).below hb2
  rw [hB] at k0 k1
  have hs0 := HS0.out
  rw [hB] at hs0
  obtain ⟨P, hP⟩ : ∃ P, w1.heap.size = P := ⟨_, rfl⟩
  rw [hP] at hs2 hsz1 kp hb2
  have hPB : w.heap.size ≤ P := by omega
  have hC := draw_does P (B + 1) w hPB (by omega) (by omega)
  have hmade := made_any (drawC P (B + 1) w hPB) hC g v HV.out.2.1 (⟨st, ga⟩, [], .slice none 0 0) w2 ⟨kp, k1, World.ownsRow_nil _ _ _ _, fun k hk => hb2'.block k hk, Nat.zero_le _, HV.out.2.2⟩ (by show 6 ≤ 100 - 0; omega) (HV.out.1.on hb2') (fun nn gb' h hk => by
    have hv := HV.out.1
    have hlt : gb' < w.heap.size := by
      cases g with
      | int a b => rw [show v = intG a b from hv] at h; cases h
      | many n' a b =>
        obtain ⟨gb2, h1, h2⟩ := hv
        rw [h1] at h
        cases h
        exact h2.lt
    rcases hk with rfl | rfl | hk
    · omega
    · omega
    · cases hk)
  have HMADE := Lib.hid (show Calls Tryz.prog 86 #[.func (.func 146) #[] #[.pointer (some ⟨B + 1, 0, none⟩), .pointer (some ⟨P, 0, none⟩)], v] w2 _ from hmade)
  have HK2 := Lib.hid hb2'
  rw [hsh] at HMADE
  have c0' : w2.cell? ⟨B, 0, none⟩ = some (.int .i64 gk) := k0.cell 0
  have c1' : w2.cell? ⟨B, 1, none⟩ = some (.int .i64 xa) := k0.cell 1
  have c2' : w2.cell? ⟨B, 2, none⟩ = some (.int .i64 gb) := k0.cell 2
  have c3' : w2.cell? ⟨B, 3, none⟩ = some (.slice gao gn gc) := k0.cell 3
  rw [hw2] at HMADE c0' c1' c2' c3'
  have HW2 := Lib.hid hw2
  clear hb1 hb1' hb2 hb2' kp k0 k1 hw2 hC hmade c0 c1 c2 c3 HK
  go_wp2_with fail
  refine HMADE.out.mono ?_
  clear HMADE
  rintro e w3 ⟨ht, hhow⟩
  rw [← HW2.out] at ht hhow
  have hB3 : Below w.heap.size w w3 := ((Tch.of_below (S := (drawC P (B + 1) w hPB).own (⟨st, ga⟩, [], .slice none 0 0)) HK2.out).trans ht (fun _ h => .inl h)).below (Nat.le_refl _) (fun q h => by rcases h with h | h | h; omega; omega; cases h)
  obtain ⟨x0, t0, hx0⟩ := draw_play P (B + 1) w hPB g ⟨st, ga⟩
  rcases hhow with ⟨x, t, v3, hp, rfl, hval, hfar, hI, ho⟩ | ⟨cc, hp, rfl⟩
  · replace hp : (drawC P (B + 1) w hPB).play g (⟨st, ga⟩, []) = .ok (x, (t.1, t.2.1)) := hp
    rw [hx0] at hp
    obtain ⟨t1, out, u⟩ := t
    simp only [Except.ok.injEq, Prod.mk.injEq] at hp
    obtain ⟨rfl, rfl, rfl⟩ := hp
    have g0 : w3.cell? ⟨P, 0, none⟩ = some u := hI.1.cell 0
    have HI := Lib.hid hI.2.2.1
    have HB3 := Lib.hid hB3
    clear hval hfar hI ho ht hB3
    go_wp2_with fail
    go_ret2
    exact ⟨HB3.out, u, rfl, HI.out.mono (by omega)⟩
  · replace hp : (drawC P (B + 1) w hPB).play g (⟨st, ga⟩, []) = .error cc := hp
    rw [hx0] at hp
    cases hp
end Go.Proofs.YtalbllijahiiiaaGreatDoor
