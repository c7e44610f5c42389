/- gen.Mend. -/
import Derived.Test.YtalbllijahiiiaaGreatDoorDesk7
namespace Go.Proofs.YtalbllijahiiiaaGreatDoor
open Go.RowKit Go.Mine Go.Mine.Desk

theorem mend_enters (lb : Array Value) (v : Value) (w : World) : Sem.run Tryz.prog (callFunc 116 (#[v] ++ lb)) w = .ok (.enter 116 (#[v] ++ lb)) w := by kernel_rfl
/-- What is chosen next. -/
def mendAt (ts out : List Int) (m : Int) : Int := clamp m (ts.getD out.length 0)
def mendC (ts : List Int) (ao : Option Addr) (n c pb tb : Nat) (W : World) (hp : W.heap.size ≤ pb) : Chooser (List Int × Value) (List Int) where
  gf := 116
  caps := #[.pointer (some ⟨pb, 0, none⟩), .pointer (some ⟨tb, 0, none⟩)]
  I s w := Blk w pb 48 #[s.2] ∧ Blk w tb 48 #[.slice ao n c] ∧ w.ownsRow (pb + 1) 3 1 s.2 s.1.length (s.1.map (.int .i64)) ∧ (∀ k, k < W.heap.size → w.heap[k]? = W.heap[k]?) ∧ s.1.length ≤ 100
  own s k := k = pb ∨ k = tb ∨ s.2.ownBlock = some k
  abs s := s.1
  step out m := .ok (mendAt ts out m, out ++ [mendAt ts out m])
  lo := W.heap.size
  room s := 100 - s.1.length
  keep s w w' h h1 h2 := ⟨h.1.same (h1 pb (.inl rfl)), h.2.1.same (h1 tb (.inr (.inl rfl))), owns_same h.2.2.1 fun g hg => h1 g (.inr (.inr hg)), fun k hk => (h2 k hk).trans (h.2.2.2.1 k hk), h.2.2.2.2⟩
  low s w h := by have := h.1.lt; omega
  lt s w k h hk := by
    rcases hk with rfl | rfl | hk
    · exact h.1.lt
    · exact h.2.1.lt
    · exact (h.2.2.1.lt k hk).2
  enters := mend_enters _
theorem mend_next {ts out : List Int} {ao : Option Addr} {n c pb tb : Nat} {W : World} (hp : W.heap.size ≤ pb) (hpt : tb < pb) {u : Value} {w w7 : World} {x : Int} {g cap : Nat} {cs : Array Value}
    (hI : (mendC ts ao n c pb tb W hp).I (out, u) w) (hrm : out.length < 100) (hown : w7.ownsRow (pb + 1) 3 1 (.slice (some ⟨g, 0, none⟩) (out.length + 1) cap) (out.length + 1) (out.map (.int .i64) ++ [.int .i64 x])) (hgr : (w.alloc (.cells cs 3)).grownBy w7 u.ownBlock) (hat : u.ownBlock = some g ∨ g = w.heap.size + 1) (hw : W.heap.size ≤ tb) :
    Tch ((mendC ts ao n c pb tb W hp).own (out, u)) w (w7.setCell ⟨pb, 0, none⟩ (.slice (some ⟨g, 0, none⟩) (out.length + 1) cap)) ∧
    (mendC ts ao n c pb tb W hp).I (out ++ [x], .slice (some ⟨g, 0, none⟩) (out.length + 1) cap) (w7.setCell ⟨pb, 0, none⟩ (.slice (some ⟨g, 0, none⟩) (out.length + 1) cap)) ∧
    ∀ k, (mendC ts ao n c pb tb W hp).own (out ++ [x], .slice (some ⟨g, 0, none⟩) (out.length + 1) cap) k → (mendC ts ao n c pb tb W hp).own (out, u) k ∨ w.heap.size ≤ k := by
  obtain ⟨k0, k1, k2, k3, k4⟩ := hI
  have hl0 := k0.lt
  have hlt := k2.lt
  have hb : ∀ k, k < w.heap.size → u.ownBlock ≠ some k → w7.heap[k]? = w.heap[k]? := fun k hk hn => by
    rw [hgr.block k (by simp; omega) (fun e => hn e.symm), Below.heap_alloc w _ k hk]
  have hP : ∀ k, k ≤ pb → u.ownBlock ≠ some k := fun k hk e => by have := (hlt k e).1; omega
  have hg : g ≠ pb := by
    rcases hat with h | h
    · have := (hlt g h).1; omega
    · omega
  refine ⟨?_, ⟨(k0.same (hb _ hl0 (hP _ (Nat.le_refl _)))).set 0 _, (k1.same (hb _ k1.lt (hP _ (by omega)))).other _ _ (by omega) _, ?_, fun k hk => ?_, by simp; omega⟩, fun k hk => ?_⟩
  · exact (((Tch.refl _ w).alloc (.cells cs 3)).grown hgr fun k hk => .inl (.inr (.inr hk))).set (.inl (.inl rfl)) _
  · rw [List.length_append, List.map_append]
    exact owns_same hown fun g' hg' => by cases hg'; exact Below.heap_setCell _ _ _ _ hg
  · rw [Below.heap_setCell _ _ _ _ (by show k ≠ pb; omega), hb k (by omega) (hP k (by omega))]
    exact k3 k hk
  · rcases hk with rfl | rfl | hk
    · exact .inl (.inl rfl)
    · exact .inl (.inr (.inl rfl))
    · cases hk
      rcases hat with h | h
      · exact .inl (.inr (.inr h))
      · refine .inr ?_
        show w.heap.size ≤ g
        omega
theorem infoI3d : (Tryz.prog.info? 3).map (fun i => (i.zero, i.size, i.bytes)) = some (some (.int .i64 0), 1, 8) := by kernel_rfl
set_option maxRecDepth 100000 in
set_option maxHeartbeats 1000000 in
theorem mend_does (ts : List Int) (ao : Option Addr) (n c pb tb : Nat) (W : World) (hp : W.heap.size ≤ pb) (hpt : tb < pb) (hw : W.heap.size ≤ tb) (hn : ts.length = n) (hl : n ≤ maxLen) (hat : IntsAt .i64 W ao ts) : (mendC ts ao n c pb tb W hp).Does := by
  rintro ⟨out, u⟩ w m hI hrm hm0 hm1
  replace hrm : out.length < 100 := by have : 0 < 100 - out.length := hrm; omega
  show Calls Tryz.prog 116 #[.int .i64 m, .pointer (some ⟨pb, 0, none⟩), .pointer (some ⟨tb, 0, none⟩)] w _
  have hl' : n ≤ 9223372036854775807 := by unfold maxLen at hl; omega
  obtain ⟨k0, k1, k2, k3, k4⟩ := id hI
  replace k2 : w.ownsRow (pb + 1) 3 1 u out.length (out.map (.int .i64)) := k2
  obtain ⟨uo, ucap, rfl⟩ := owns_shape k2
  have c0 : w.cell? ⟨pb, 0, none⟩ = some (.slice uo out.length ucap) := k0.cell 0
  have c1 : w.cell? ⟨tb, 0, none⟩ = some (.slice ao n c) := k1.cell 0
  have f0 : w.frozen? ⟨pb, 0, none⟩ = false := k0.froz 0
  have HI := Lib.hid hI
  have HROW := Lib.hid k2
  have HLT := Lib.hid k0.lt
  obtain ⟨i0, hi0, hz0, hz1, hz2⟩ := info_parts infoI3d
  have hL99 : out.length < 100 := by omega
  have HIN := Lib.hid (fun (w7 : World) (x : Int) (g cap : Nat) h1 h2 h3 => mend_next (ts := ts) (x := x) (w7 := w7) (g := g) (cap := cap) (cs := #[.int .i64 x]) hp hpt hI hrm h1 h2 h3 hw)
  have HX := Lib.hid (show mendAt ts out m = clamp m (ts.getD out.length 0) from rfl)
  clear hI k0 k1 k2
  rcases Nat.lt_or_ge out.length n with hLn | hLn
  · obtain ⟨b, o, rfl, hx⟩ := hat out.length (by omega)
    have hxw : w.cell? ⟨b, o + out.length, none⟩ = some (.int .i64 (ts.getD out.length 0)) := by
      have hb := World.block_lt_of_cell? W _ hx
      rw [← hx]; exact World.cell?_of_block (k3 b hb)
    obtain ⟨x, hxe⟩ : ∃ x, ts.getD out.length 0 = x := ⟨_, rfl⟩
    rw [hxe] at hxw HX
    have hi0' : (0 : Int) ≤ (out.length : Int) := by omega
    have hi1 : (out.length : Int) < (n : Int) := by omega
    clear k3 k4 hat hx hxe
    obtain ⟨y, hy⟩ : ∃ y, max 0 (min x m) = y := ⟨_, rfl⟩
    have HY := Lib.hid (show clamp m x = y from hy)
    have hy0 : 0 ≤ y ∧ y ≤ m := by omega
    go_enter Tryz.func116, Tryz.ntmps116
    go_wp2_with (at_builtin; refine wpList_push2 _ rfl _ _ 48 rfl (pb + 1) 3 i0 (.int .i64 0) 1 8 Tryz.underlying48 hi0 hz0 hz1 hz2 rfl (by decide) _ _ _ rfl (HROW.out.alloc _) ⟨w.heap.size, 0, none⟩ 1 [.int .i64 y] rfl rfl (World.news_of_block (cs := #[.int .i64 y]) (t := 3) (fr := (0, 0)) (heap_alloc_at _ _ rfl)) (one1 _ _) (by unfold maxLen; omega) (by omega) (by have := HLT.out; simp; omega) ?_)
    intro g cap w7 hown hgr hat
    have hb7 : w7.heap[pb]? = w.heap[pb]? := by
      rw [hgr.block pb (by have := HLT.out; simp; omega) (fun e => by have := (HROW.out.lt pb e.symm).1; omega), Below.heap_alloc w _ pb HLT.out]
    have e0 : w7.cell? ⟨pb, 0, none⟩ = some (.slice uo out.length ucap) := (World.cell?_of_block (a := ⟨pb, 0, none⟩) hb7).trans c0
    have e1 : w7.frozen? ⟨pb, 0, none⟩ = false := (World.frozen?_of_block (a := ⟨pb, 0, none⟩) hb7).trans f0
    have HN := Lib.hid (HIN.out w7 _ g cap hown hgr hat)
    clear hown hgr hat hb7
    go_wp2_with fail
    go_ret
    refine ⟨HN.out.1, .inl ⟨y, (out ++ [y], _), ?_, by omega, by omega, rfl, HN.out.2.1, ?_, HN.out.2.2⟩⟩
    · show Except.ok (mendAt ts out m, out ++ [mendAt ts out m]) = _
      rw [HX.out, HY.out]
      rfl
    · show 100 - out.length ≤ 100 - (out ++ [y]).length + 1
      simp; omega
  · have hx0 : ts.getD out.length 0 = 0 := by simp [show ts.length ≤ out.length by omega]
    have hy : clamp m 0 = 0 := by unfold clamp; omega
    have hi1 : ¬ (out.length : Int) < (n : Int) := by omega
    clear k3 k4 hat
    go_enter Tryz.func116, Tryz.ntmps116
    go_wp2_with (at_builtin; refine wpList_push2 _ rfl _ _ 48 rfl (pb + 1) 3 i0 (.int .i64 0) 1 8 Tryz.underlying48 hi0 hz0 hz1 hz2 rfl (by decide) _ _ _ rfl (HROW.out.alloc _) ⟨w.heap.size, 0, none⟩ 1 [.int .i64 0] rfl rfl (World.news_of_block (cs := #[.int .i64 0]) (t := 3) (fr := (0, 0)) (heap_alloc_at _ _ rfl)) (one1 _ _) (by unfold maxLen; omega) (by omega) (by have := HLT.out; simp; omega) ?_)
    intro g cap w7 hown hgr hat
    have hb7 : w7.heap[pb]? = w.heap[pb]? := by
      rw [hgr.block pb (by have := HLT.out; simp; omega) (fun e => by have := (HROW.out.lt pb e.symm).1; omega), Below.heap_alloc w _ pb HLT.out]
    have e0 : w7.cell? ⟨pb, 0, none⟩ = some (.slice uo out.length ucap) := (World.cell?_of_block (a := ⟨pb, 0, none⟩) hb7).trans c0
    have e1 : w7.frozen? ⟨pb, 0, none⟩ = false := (World.frozen?_of_block (a := ⟨pb, 0, none⟩) hb7).trans f0
    have HN := Lib.hid (HIN.out w7 _ g cap hown hgr hat)
    clear hown hgr hat hb7
    go_wp2_with fail
    go_ret
    refine ⟨HN.out.1, .inl ⟨(0 : Int), (out ++ [(0 : Int)], _), ?_, by omega, by omega, rfl, HN.out.2.1, ?_, HN.out.2.2⟩⟩
    · show Except.ok (mendAt ts out m, out ++ [mendAt ts out m]) = _
      rw [HX.out, hx0, hy]
      rfl
    · show 100 - out.length ≤ 100 - (out ++ [(0 : Int)]).length + 1
      simp; omega

/-! What is mended, plainly. -/
theorem mend_many (ts : List Int) (ao : Option Addr) (n c pb tb : Nat) (W : World) (hp : W.heap.size ≤ pb) (m : Int) (out : List Int) : ∀ k, (mendC ts ao n c pb tb W hp).many m k out = .ok ((List.range k).map fun i => clamp m (ts.getD (out.length + i) 0), out ++ (List.range k).map fun i => clamp m (ts.getD (out.length + i) 0))
  | 0 => by simp [Chooser.many]
  | k + 1 => by
    rw [Chooser.many, mend_many ts ao n c pb tb W hp m out k]
    simp only [show (mendC ts ao n c pb tb W hp).step = fun out m => .ok (mendAt ts out m, out ++ [mendAt ts out m]) from rfl]
    rw [List.range_succ, List.map_append, List.map_cons, List.map_nil]
    simp [mendAt]
theorem mend_play (ts : List Int) (ao : Option Addr) (n c pb tb : Nat) (W : World) (hp : W.heap.size ≤ pb) (g : G) : ∃ x, (mendC ts ao n c pb tb W hp).play g [] = .ok (x, mend g ts) := by
  have hs : (mendC ts ao n c pb tb W hp).step = fun out m => .ok (mendAt ts out m, out ++ [mendAt ts out m]) := rfl
  cases g with
  | int a b => exact ⟨_, by simp only [Chooser.play, hs]; rfl⟩
  | many k a b =>
    simp only [Chooser.play, hs, mend_many]
    refine ⟨V.list (((List.range (mendAt ts [] k).toNat).map fun i => clamp (b - a) (ts.getD (([] ++ [mendAt ts [] k] : List Int).length + i) 0)).map (a + ·)), ?_⟩
    simp [mendAt, mend, Nat.add_comm]
def MendPost (g : G) (ts : List Int) (w : World) (e : Ending) (w' : World) : Prop :=
  Below w.heap.size w w' ∧ ∃ u, e = .returned (.tuple #[u, .nilIface]) ∧ w'.ownsRow w.heap.size 3 1 u (mend g ts).length ((mend g ts).map (.int .i64))
set_option maxRecDepth 100000 in
set_option maxHeartbeats 2000000 in
theorem mend_any (g : G) (v : Value) (hr : g.right) (ts : List Int) (ao : Option Addr) (n c : Nat) (hn : ts.length = n) (hl : n ≤ maxLen) (w : World) (hv : GenAt w v g) (hat : IntsAt .i64 w ao ts) :
    Calls Tryz.prog 89 #[v, .slice ao n c] w (MendPost g ts w) := by
  obtain ⟨gk, ga, gb, gao, gn, gc, hsh⟩ := hv.shape
  obtain ⟨w0, hw0⟩ : ∃ w0, w0 = (w.alloc (.cells #[.int .i64 gk, .int .i64 ga, .int .i64 gb, .slice gao gn gc] 28)).alloc (.cells #[.slice ao n c] 48) := ⟨_, rfl⟩
  have hs0 : w0.heap.size = w.heap.size + 2 := by rw [hw0]; simp
  have hb0 : Below w.heap.size w w0 := by rw [hw0]; exact ((Below.refl w.heap.size w).alloc (Nat.le_refl _) _).alloc (by simp) _
  have k0 : Blk w0 w.heap.size 28 #[.int .i64 gk, .int .i64 ga, .int .i64 gb, .slice gao gn gc] := by rw [hw0]; exact (Blk.new _ _ _).alloc _
  have k1 : Blk w0 (w.heap.size + 1) 48 #[.slice ao n c] := by rw [hw0]; have := Blk.new (w.alloc (.cells #[.int .i64 gk, .int .i64 ga, .int .i64 gb, .slice gao gn gc] 28)) 48 #[.slice ao n c]; simpa using this
  have HCHK := Lib.hid (checkR_any g v hr w0 (hv.on hb0))
  obtain ⟨B, hB⟩ : ∃ B, w.heap.size = B := ⟨_, rfl⟩
  have HK := Lib.hid (And.intro hb0 (And.intro k0 k1))
  have c0 : w0.cell? ⟨B, 0, none⟩ = some (.int .i64 gk) := by rw [← hB]; exact k0.cell 0
  have c1 : w0.cell? ⟨B, 1, none⟩ = some (.int .i64 ga) := by rw [← hB]; exact k0.cell 1
  have c2 : w0.cell? ⟨B, 2, none⟩ = some (.int .i64 gb) := by rw [← hB]; exact k0.cell 2
  have c3 : w0.cell? ⟨B, 3, none⟩ = some (.slice gao gn gc) := by rw [← hB]; exact k0.cell 3
  rw [hsh] at HCHK ⊢
  rw [hw0] at HCHK c0 c1 c2 c3
  have HW0 := Lib.hid hw0
  have HV := Lib.hid (And.intro hv (And.intro hr (And.intro hn (And.intro hl hat))))
  have HS0 := Lib.hid hs0
  clear hb0 k0 k1 hw0 hv hat hr hn hl hs0
  go_enter Tryz.func89, Tryz.ntmps89
  go_wp2_with fail
  refine HCHK.out.mono ?_
  clear HCHK
  rintro e w1 ⟨rfl, hb1⟩
  rw [← HW0.out] at hb1
  have hb1' := HK.out.1.trans (hb1.mono HK.out.1.size)
  obtain ⟨w2, hw2⟩ : ∃ w2, w2 = w1.alloc (.cells #[.slice none 0 0] 48) := ⟨_, rfl⟩
  have hsz1 := hb1.size
  have hs2 : w2.heap.size = w1.heap.size + 1 := by rw [hw2]; simp
  have hb2 : Below w1.heap.size w1 w2 := by rw [hw2]; exact (Below.refl _ _).alloc (Nat.le_refl _) _
  have hb2' : Below w.heap.size w w2 := hb1'.trans (hb2.mono hb1'.size)
  have kp : Blk w2 w1.heap.size 48 #[.slice none 0 0] := by rw [hw2]; exact Blk.new w1 48 #[.slice none 0 0]
  have k0 := (HK.out.2.1.below hb1).below hb2
  have k1 := (HK.out.2.2.below hb1).below hb2
  rw [hB] at k0 k1
  have hs0 := HS0.out
  rw [hB] at hs0
  obtain ⟨P, hP⟩ : ∃ P, w1.heap.size = P := ⟨_, rfl⟩
  rw [hP] at hs2 hsz1 kp hb2
  have hPB : w.heap.size ≤ P := by omega
  have hC := mend_does ts ao n c P (B + 1) w hPB (by omega) (by omega) HV.out.2.2.1 HV.out.2.2.2.1 HV.out.2.2.2.2
  have hmade := made_any (mendC ts ao n c P (B + 1) w hPB) hC g v HV.out.2.1 ([], .slice none 0 0) w2 ⟨kp, k1, World.ownsRow_nil _ _ _ _, fun k hk => hb2'.block k hk, Nat.zero_le _⟩ (by show 6 ≤ 100 - 0; omega) (HV.out.1.on hb2') (fun nn gb' h hk => by
    have hv := HV.out.1
    have hlt : gb' < w.heap.size := by
      cases g with
      | int a b => rw [show v = intG a b from hv] at h; cases h
      | many n' a b =>
        obtain ⟨gb2, h1, h2⟩ := hv
        rw [h1] at h
        cases h
        exact h2.lt
    rcases hk with rfl | rfl | hk
    · omega
    · omega
    · cases hk)
  have HMADE := Lib.hid (show Calls Tryz.prog 86 #[.func (.func 116) #[] #[.pointer (some ⟨P, 0, none⟩), .pointer (some ⟨B + 1, 0, none⟩)], v] w2 _ from hmade)
  have HK2 := Lib.hid hb2'
  rw [hsh] at HMADE
  have c0' : w2.cell? ⟨B, 0, none⟩ = some (.int .i64 gk) := k0.cell 0
  have c1' : w2.cell? ⟨B, 1, none⟩ = some (.int .i64 ga) := k0.cell 1
  have c2' : w2.cell? ⟨B, 2, none⟩ = some (.int .i64 gb) := k0.cell 2
  have c3' : w2.cell? ⟨B, 3, none⟩ = some (.slice gao gn gc) := k0.cell 3
  rw [hw2] at HMADE c0' c1' c2' c3'
  have HW2 := Lib.hid hw2
  clear hb1 hb1' hb2 hb2' kp k0 k1 hw2 hC hmade c0 c1 c2 c3 HK
  go_wp2_with fail
  refine HMADE.out.mono ?_
  clear HMADE
  rintro e w3 ⟨ht, hhow⟩
  rw [← HW2.out] at ht hhow
  have hB3 : Below w.heap.size w w3 := ((Tch.of_below (S := (mendC ts ao n c P (B + 1) w hPB).own ([], .slice none 0 0)) HK2.out).trans ht (fun _ h => .inl h)).below (Nat.le_refl _) (fun q h => by rcases h with h | h | h; omega; omega; cases h)
  obtain ⟨x0, hx0⟩ := mend_play ts ao n c P (B + 1) w hPB g
  rcases hhow with ⟨x, t, v3, hp, rfl, hval, hfar, hI, ho⟩ | ⟨cc, hp, rfl⟩
  · replace hp : (mendC ts ao n c P (B + 1) w hPB).play g [] = .ok (x, t.1) := hp
    rw [hx0] at hp
    obtain ⟨out, u⟩ := t
    simp only [Except.ok.injEq, Prod.mk.injEq] at hp
    obtain ⟨rfl, rfl⟩ := hp
    have g0 : w3.cell? ⟨P, 0, none⟩ = some u := hI.1.cell 0
    have HI := Lib.hid hI.2.2.1
    have HB3 := Lib.hid hB3
    clear hval hfar hI ho ht hB3
    go_wp2_with fail
    go_ret2
    exact ⟨HB3.out, u, rfl, HI.out.mono (by omega)⟩
  · replace hp : (mendC ts ao n c P (B + 1) w hPB).play g [] = .error cc := hp
    rw [hx0] at hp
    cases hp
end Go.Proofs.YtalbllijahiiiaaGreatDoor
