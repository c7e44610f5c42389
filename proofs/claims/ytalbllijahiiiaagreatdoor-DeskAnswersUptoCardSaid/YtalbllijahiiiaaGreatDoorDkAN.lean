/- rank.Nth. What is drawn can be replayed; runs, plainly. -/
import Derived.Test.YtalbllijahiiiaaGreatDoorDkAJ
import Derived.Test.YtalbllijahiiiaaGreatDoorDkAM
import Derived.RegionTactic
import Derived.Deep.LoopGhost
section
namespace Go.Proofs.YtalbllijahiiiaaGreatDoor
open Go.RowKit Go.Mine Go.Mine.Desk

structure TodoAt (w : World) (q o : Nat) (g : G) (v : Value) (gk ga gb : Int) (gao : Option Addr) (gn gc : Nat) (a b : Int) (j : Nat) : Prop where
  shape : v = .agg #[.int .i64 gk, .int .i64 ga, .int .i64 gb, .slice gao gn gc]
  c0 : w.cell? ⟨q, o, none⟩ = some (.int .i64 gk)
  c1 : w.cell? ⟨q, o + 1, none⟩ = some (.int .i64 ga)
  c2 : w.cell? ⟨q, o + 2, none⟩ = some (.int .i64 gb)
  c3 : w.cell? ⟨q, o + 3, none⟩ = some (.slice gao gn gc)
  gen : GenAt w v g
  rest : RunAt w (some ⟨q, o + 4, none⟩) a b j
  own : g = .int a b ∨ (j = 0 ∧ ∃ n, g = .many n a b)
  kind : gk = 2 ∨ gk = 4
theorem RunAt.sub {w : World} {q o : Nat} {a b : Int} {n : Nat} (h : RunAt w (some ⟨q, o, none⟩) a b (n + 1)) : RunAt w (some ⟨q, o + 4, none⟩) a b n := fun k hk => by
  obtain ⟨g, p, h0, h1, h2, h3, h4⟩ := h (k + 1) (by omega)
  simp only [Option.some.injEq, Addr.mk.injEq] at h0
  obtain ⟨rfl, rfl, _⟩ := h0
  refine ⟨q, o + 4, rfl, ?_⟩
  rw [show o + 4 + k * 4 = o + (k + 1) * 4 by omega]
  exact ⟨h1, h2, h3, h4⟩
theorem TodoAt.ofRun {w : World} {q : Nat} {a b : Int} {n : Nat} (h : RunAt w (some ⟨q, 0, none⟩) a b (n + 1)) : TodoAt w q 0 (.int a b) (intG a b) 2 a b none 0 0 a b n := by
  obtain ⟨g, p, h0, h1, h2, h3, h4⟩ := h 0 (by omega)
  simp only [Option.some.injEq, Addr.mk.injEq] at h0
  obtain ⟨rfl, rfl, _⟩ := h0
  exact ⟨rfl, h1, h2, h3, h4, rfl, h.sub, .inl rfl, .inl rfl⟩
theorem TodoAt.on {w w' : World} {q o : Nat} {g : G} {v : Value} {gk ga gb : Int} {gao : Option Addr} {gn gc : Nat} {a b : Int} {j : Nat} (h : TodoAt w q o g v gk ga gb gao gn gc a b j) (hb : Below w.heap.size w w') : TodoAt w' q o g v gk ga gb gao gn gc a b j := by
  have hl : q < w.heap.size := World.block_lt_of_cell? w _ h.c0
  exact ⟨h.shape, (hb.cell (by exact hl)).trans h.c0, (hb.cell (by exact hl)).trans h.c1, (hb.cell (by exact hl)).trans h.c2, (hb.cell (by exact hl)).trans h.c3, h.gen.on hb, h.rest.on (Nat.le_refl _) hb, h.own, h.kind⟩
def muG : G → Nat → Nat
  | .int _ _, j => j + 1
  | .many _ _ _, _ => 10
inductive NthSt (c : Int) (ans : List Int) (wr : World) (i : Int) (out : List Int) (ov : Value) (ao : Option Addr) (tn tc : Nat) : Nat → Prop
  | more (q o : Nat) (g : G) (v : Value) (gk ga gb : Int) (gao : Option Addr) (gn gc : Nat) (a b : Int) (j : Nat) (ht : ao = some ⟨q, o, none⟩) (hn : tn = j + 1) (hc : tn ≤ tc) (ap : ov.ownBlock ≠ some q) (at_ : TodoAt wr q o g v gk ga gb gao gn gc a b j) (right : g.right) (hw : wide g = c) (hj : j ≤ 4) (i0 : 0 ≤ i) (ib : i ≤ 1048576) (i1 : i < tot (mW g j) (brN g)) (eqn : ans = out ++ nthS g j i) (mu : Nat) (hmu : mu = muG g j) : NthSt c ans wr i out ov ao tn tc mu
  | done (hn : tn = 0) (eqn : ans = out) : NthSt c ans wr i out ov ao tn tc 0

theorem findK_le (m : Nat → Int) : ∀ (f k : Nat) (i : Int), (findK m f k i).1 ≤ k + f
  | 0, k, i => by simp [findK]
  | f + 1, k, i => by
    rw [findK]
    split
    · simp
    · have := findK_le m f (k + 1) (i - m k); omega
theorem digsN_len (c : Int) : ∀ (j : Nat) (i : Int), (digsN c j i).length = j
  | 0, _ => rfl
  | j + 1, i => by rw [digsN, List.length_cons, digsN_len c j]
theorem brF_le (g : G) (k : Nat) : brF g k ≤ k := by cases g <;> simp [brF]
theorem nthS_len {g : G} (hr : g.right) (i : Int) : (nthS g 0 i).length ≤ 7 := by
  unfold nthS
  rw [List.length_cons, digsN_len]
  cases g with
  | int a b => simp [brF]
  | many n a b =>
    have h1 := findK_le (mW (.many n a b) 0) (brN (.many n a b)) 0 i
    have h2 : brN (.many n a b) ≤ 6 := by rw [brN_many]; have := hr.2.1; omega
    simp only [brF]
    omega
def nthR (g : G) (i : Int) : Except Int (List Int) := if 1048576 < cnt g then .error 4 else if i < 0 ∨ cnt g ≤ i then .error 1 else .ok (nth g i)
def NthPost (g : G) (i : Int) (w : World) (e : Ending) (w' : World) : Prop :=
  Below w.heap.size w w' ∧ ((∃ c, nthR g i = .error c ∧ e = .returned (.tuple #[.slice none 0 0, .iface 36 (.int .i64 c)])) ∨
    (∃ l uo uc, nthR g i = .ok l ∧ e = .returned (.tuple #[.slice uo l.length uc, .nilIface]) ∧ IntsAt .i64 w' uo l))
theorem branches_any (g : G) (v : Value) (a b : Int) (j : Nat) (hr : g.right) (hown : g = .int a b ∨ (j = 0 ∧ ∃ n, g = .many n a b)) (w : World) (hv : GenAt w v g) :
    Calls Tryz.prog 83 #[v] w fun e w' => (∃ u, e = .returned u ∧ BrAt w' w.heap.size u a b (brN g) (brF g)) ∧ Below w.heap.size w w' := by
  rcases hown with rfl | ⟨_, n, rfl⟩
  · obtain rfl : v = intG a b := hv
    exact branches_int a b hr w
  · obtain ⟨gb, rfl, hs⟩ := hv
    exact branches_many n a b gb hr w hs
theorem own_right {g : G} {a b : Int} {j : Nat} (hr : g.right) (hown : g = .int a b ∨ (j = 0 ∧ ∃ n, g = .many n a b)) : (G.int a b).right ∧ wide g = b - a + 1 ∧ (∀ k, k < brN g → j ≤ 4 → brF g k + j ≤ 5) ∧ brN g ≤ 1001 := by
  rcases hown with rfl | ⟨rfl, n, rfl⟩
  · exact ⟨hr, rfl, fun k _ hj => by simp only [brF]; omega, by rw [brN_int]; have := hr.2.2.2; omega⟩
  · obtain ⟨h0, h5, h⟩ := hr
    exact ⟨h, rfl, fun k hk _ => by simp only [brF]; rw [brN_many] at hk; omega, by rw [brN_many]; omega⟩
theorem gen_parts {w : World} {v : Value} {g : G} (h : GenAt w v g) : ∃ gk ga gb gao gn gc a b, v = .agg #[.int .i64 gk, .int .i64 ga, .int .i64 gb, .slice gao gn gc] ∧ (gk = 2 ∨ gk = 4) ∧ (g = .int a b ∨ ∃ n, g = .many n a b) := by
  cases g with
  | int a b => exact ⟨2, a, b, none, 0, 0, a, b, h, .inl rfl, .inl rfl⟩
  | many n a b =>
    obtain ⟨gb, h, _⟩ := h
    exact ⟨4, n, 0, some ⟨gb, 0, none⟩, 1, 1, a, b, h, .inr rfl, .inr ⟨n, rfl⟩⟩
theorem flatG_one (a b : Int) : ∀ n, ∀ u ∈ flatG a b n, u.oneCell' = true
  | 0, u, h => by simp [flatG] at h
  | n + 1, u, h => by
    rw [flatG_snoc, List.mem_append] at h
    rcases h with h | h
    · exact flatG_one a b n u h
    · exact one4 a b u h
theorem flatG_add (a b : Int) (n : Nat) : ∀ m, flatG a b n ++ flatG a b m = flatG a b (n + m)
  | 0 => by simp [flatG]
  | m + 1 => by rw [flatG_snoc, ← List.append_assoc, flatG_add a b n m, ← Nat.add_assoc, flatG_snoc]
theorem flatG_at (a b : Int) : ∀ (n k : Nat) (r : Nat) (u : Value), (flatG a b n)[k * 4 + r]? = some u → r < 4 → k < n ∧ ((r = 0 ∧ u = .int .i64 2) ∨ (r = 1 ∧ u = .int .i64 a) ∨ (r = 2 ∧ u = .int .i64 b) ∨ (r = 3 ∧ u = .slice none 0 0)) := fun n k r u h hr => by
  have hl := flatG_len a b n
  have hk : k < n := by
    have := (List.getElem?_eq_some_iff.1 h).1
    omega
  obtain ⟨q0, q1, q2, q3⟩ := flatG_get a b n k hk
  refine ⟨hk, ?_⟩
  have : r = 0 ∨ r = 1 ∨ r = 2 ∨ r = 3 := by omega
  rcases this with rfl | rfl | rfl | rfl
  · rw [Nat.add_zero, q0] at h; cases h; exact .inl ⟨rfl, rfl⟩
  · rw [q1] at h; cases h; exact .inr (.inl ⟨rfl, rfl⟩)
  · rw [q2] at h; cases h; exact .inr (.inr (.inl ⟨rfl, rfl⟩))
  · rw [q3] at h; cases h; exact .inr (.inr (.inr ⟨rfl, rfl⟩))
theorem RunAt.news {w : World} {ao : Option Addr} {a b : Int} {n : Nat} (h : RunAt w ao a b n) : ∀ ad, ao = some ad → ∀ j u, (flatG a b n)[j]? = some u → w.cell? (ad.add j) = some u := by
  rintro ad rfl j u hj
  have e : j = j / 4 * 4 + j % 4 := by omega
  rw [e] at hj
  obtain ⟨hk, hu⟩ := flatG_at a b n (j / 4) (j % 4) u hj (Nat.mod_lt _ (by omega))
  obtain ⟨g, o, h0, h1, h2, h3, h4⟩ := h (j / 4) hk
  cases h0
  have ea : (⟨g, o, none⟩ : Addr).add j = ⟨g, o + j, none⟩ := by simp [Addr.add]
  rw [ea]
  rcases hu with ⟨hr, rfl⟩ | ⟨hr, rfl⟩ | ⟨hr, rfl⟩ | ⟨hr, rfl⟩
  · rw [show o + j = o + j / 4 * 4 by omega]; exact h1
  · rw [show o + j = o + j / 4 * 4 + 1 by omega]; exact h2
  · rw [show o + j = o + j / 4 * 4 + 2 by omega]; exact h3
  · rw [show o + j = o + j / 4 * 4 + 3 by omega]; exact h4
theorem RunAt.kept {w w' : World} {ao : Option Addr} {a b : Int} {n : Nat} (h : RunAt w ao a b n) {row : Option Nat} (hg : w.grownBy w' row) (hne : ∀ q p, ao = some ⟨q, p, none⟩ → row ≠ some q) : RunAt w' ao a b n := fun k hk => by
  obtain ⟨g, o, h0, h1, h2, h3, h4⟩ := h k hk
  have hl : g < w.heap.size := World.block_lt_of_cell? w _ h1
  have hb := hg.block g hl (fun e => hne g o h0 e.symm)
  exact ⟨g, o, h0, (World.cell?_of_block (w := w) hb).trans h1, (World.cell?_of_block (w := w) hb).trans h2, (World.cell?_of_block (w := w) hb).trans h3, (World.cell?_of_block (w := w) hb).trans h4⟩
theorem nthS_hit {g : G} {j k : Nat} {i y : Int} (h : findK (mW g j) (brN g) 0 i = (k, y)) : nthS g j i = (k : Int) :: digsN (wide g) (brF g k + j) y := by unfold nthS; rw [h]
theorem NthSt.go {c : Int} {ans : List Int} {w : World} {base : Nat} {out : List Int} {g2 : G} {j k m : Nat} {a b ix iy pr : Int} {ov : Value} {v : Value} (hab : (G.int a b).right) (hwd : wide g2 = b - a + 1) (hc : wide g2 = c) (hm : m = brF g2 k) (hm5 : m + j ≤ 5) (hown : g2 = .int a b ∨ (j = 0 ∧ ∃ n, g2 = .many n a b))
    (eqn : ans = out ++ nthS g2 j ix) (hit : findK (mW g2 j) (brN g2) 0 ix = (k, iy)) (h0 : 0 ≤ iy) (hb : iy ≤ 1048576) (h1 : iy < pr) (hpr : pr = (b - a + 1) ^ (j + m))
    (hap : ∀ q, ov.ownBlock = some q → q < base) (ho : w.ownsRow base 28 4 v (m + j) (flatG a b m ++ flatG a b j)) :
    ∃ ao tc mu, v = .slice ao (m + j) tc ∧ mu < muG g2 j ∧ NthSt c ans w iy (out ++ [(k : Int)]) ov ao (m + j) tc mu := by
  have hw := hwd
  rw [hc] at hwd
  obtain ⟨ao, tc, hv⟩ := owns_shape ho
  have e2 : ans = (out ++ [(k : Int)]) ++ digsN c (m + j) iy := by
    rw [eqn, nthS_hit hit, ← hm, hc]
    simp
  rcases Nat.eq_zero_or_pos (m + j) with hz | hz
  · refine ⟨ao, tc, 0, hv, ?_, .done (by omega) ?_⟩
    · cases g2 <;> simp [muG]
    · rw [e2, hz]; simp [digsN]
  · obtain ⟨J, hJ⟩ : ∃ J, m + j = J + 1 := ⟨m + j - 1, by omega⟩
    rw [flatG_add, hJ] at ho
    rw [hv, hJ] at ho
    have hr := RunAt.of_owns ho
    have hlt := ho.2
    rcases hlt with ⟨_, h⟩ | ⟨q, cap, cur, hq, hq1, hq2, hq3, _⟩
    · omega
    · simp only [Value.slice.injEq] at hq
      obtain ⟨rfl, _, rfl⟩ := hq
      have hi1 : iy < (b - a + 1) ^ (J + 1) := by rw [show J + 1 = j + m by omega, ← hpr]; exact h1
      refine ⟨_, tc, muG (.int a b) J, hv, ?_, ?_⟩
      · rcases hown with rfl | ⟨rfl, n, rfl⟩
        · simp only [brF] at hm
          simp only [muG]
          omega
        · simp only [muG]
          omega
      · refine .more q 0 (.int a b) (intG a b) 2 a b none 0 0 a b J rfl (by omega) (by omega) (fun e => by have := hap q e; omega) (TodoAt.ofRun hr) hab (by rw [hwd]; rfl) (by omega) h0 hb ?_ ?_ _ rfl
        · rw [tot_int hab.2.2.1]; exact hi1
        · rw [e2, nthS_int hab.2.2.1 J iy h0 hi1, hJ, hwd]
theorem RunAt.none {w : World} {ao : Option Addr} {a b : Int} {n : Nat} (h : RunAt w ao a b n) : ao = none → n = 0 := by
  rintro rfl
  rcases Nat.eq_zero_or_pos n with h0 | h0
  · exact h0
  · obtain ⟨g, o, h1, _⟩ := h 0 h0
    cases h1
set_option maxRecDepth 100000 in
set_option maxHeartbeats 4000000 in
theorem nth_any (g : G) (v : Value) (hr : g.right) (i : Int) (hi : near i) (w : World) (hv : GenAt w v g) :
    Calls Tryz.prog 54 #[v, .int .i64 i] w (NthPost g i w) := by
  obtain ⟨i0, hi0, hz0, hz1, hz2⟩ := info_parts infoGen
  obtain ⟨i1, hi1, hy0, hy1, hy2⟩ := info_parts infoI3d
  obtain ⟨gk, ga, gb, gao, gn, gc, a, b, hsh, hkd, how⟩ := gen_parts hv
  have hnn := neq_nil
  obtain ⟨w0, hw0⟩ : ∃ w0, w0 = w.alloc (.cells #[.int .i64 gk, .int .i64 ga, .int .i64 gb, .slice gao gn gc] 28) := ⟨_, rfl⟩
  have hb0 : Below w.heap.size w w0 := by rw [hw0]; exact (Below.refl w.heap.size w).alloc (Nat.le_refl _) _
  have k0 : Blk w0 w.heap.size 28 #[.int .i64 gk, .int .i64 ga, .int .i64 gb, .slice gao gn gc] := by rw [hw0]; exact Blk.new _ _ _
  obtain ⟨B, hB⟩ : ∃ B, w.heap.size = B := ⟨_, rfl⟩
  rw [hB] at k0
  have HC0 := Lib.hid (gCount_any g v hr w0 (hv.on hb0))
  have HK := Lib.hid (And.intro hb0 k0)
  have HW := Lib.hid hw0
  have HV := Lib.hid (And.intro hv (And.intro hr (And.intro hi how)))
  have HSH := Lib.hid hsh
  rw [hsh] at HC0 ⊢
  have c0 : w0.cell? ⟨B, 0, none⟩ = some (.int .i64 gk) := k0.cell 0
  have c1 : w0.cell? ⟨B, 1, none⟩ = some (.int .i64 ga) := k0.cell 1
  have c2 : w0.cell? ⟨B, 2, none⟩ = some (.int .i64 gb) := k0.cell 2
  have c3 : w0.cell? ⟨B, 3, none⟩ = some (.slice gao gn gc) := k0.cell 3
  rw [hw0] at HC0 c0 c1 c2 c3
  have hct : countX g = .tuple #[.int .i64 (cnt g), .nilIface] ∧ cnt g ≤ 1048576 ∨ countX g = .tuple #[.int .i64 0, .iface 36 (.int .i64 4)] ∧ 1048576 < cnt g := by
    unfold countX
    by_cases h : cnt g ≤ 1048576
    · rw [if_pos h]; exact .inl ⟨rfl, h⟩
    · rw [if_neg h]; exact .inr ⟨rfl, by omega⟩
  clear hw0 hb0 k0 hv hr hsh hi how
  go_enter Tryz.func54, Tryz.ntmps54
  go_wp2_with fail
  refine HC0.out.mono ?_
  clear HC0
  rintro e w1 ⟨rfl, hb1⟩
  rw [← HW.out] at hb1
  have HB1 := Lib.hid (And.intro hb1 (HK.out.1.trans (hb1.mono HK.out.1.size)))
  rcases hct with ⟨hcx, hcn⟩ | ⟨hcx, hcn⟩
  rotate_left
  · rw [hcx]
    have hne := neq_errno 4
    have HP := Lib.hid (show nthR g i = .error 4 by unfold nthR; rw [if_pos hcn])
    clear hcx hcn hb1 c0 c1 c2 c3
    go_wp2_with fail
    go_ret2
    exact ⟨HB1.out.2, .inl ⟨4, HP.out, rfl⟩⟩
  · rw [hcx]
    have k1 := HK.out.2.below hb1
    have c0 : w1.cell? ⟨B, 0, none⟩ = some (.int .i64 gk) := k1.cell 0
    have c1 : w1.cell? ⟨B, 1, none⟩ = some (.int .i64 ga) := k1.cell 1
    have c2 : w1.cell? ⟨B, 2, none⟩ = some (.int .i64 gb) := k1.cell 2
    have c3 : w1.cell? ⟨B, 3, none⟩ = some (.slice gao gn gc) := k1.cell 3
    obtain ⟨N, hN⟩ : ∃ N, N = cnt g := ⟨_, rfl⟩
    rw [← hN] at hcn ⊢
    have HN := Lib.hid hN
    clear hcx hb1 k1 hN
    by_cases hneg : i < 0
    · have d1 : decide (i < 0) = true := decide_eq_true hneg
      have HP := Lib.hid (show nthR g i = .error 1 by unfold nthR; rw [if_neg (by rw [← HN.out]; omega), if_pos (.inl hneg)])
      go_wp2_with fail
      go_ret2
      exact ⟨HB1.out.2, .inl ⟨1, HP.out, rfl⟩⟩
    · have d1 : decide (i < 0) = false := decide_eq_false hneg
      by_cases hbig : N ≤ i
      · have d2 : decide (N ≤ i) = true := decide_eq_true hbig
        have HP := Lib.hid (show nthR g i = .error 1 by unfold nthR; rw [if_neg (by rw [← HN.out]; omega), if_pos (.inr (by rw [← HN.out]; exact hbig))])
        go_wp2_with fail
        go_ret2
        exact ⟨HB1.out.2, .inl ⟨1, HP.out, rfl⟩⟩
      · have d2 : decide (N ≤ i) = false := decide_eq_false hbig
        have HP := Lib.hid (show nthR g i = .ok (nthS g 0 i) by unfold nthR; rw [if_neg (by rw [← HN.out]; omega), if_neg (by rw [← HN.out]; omega)]; rfl)
        go_wp2_with fail
        obtain ⟨Q, hQ⟩ : ∃ Q, Q = w1.heap.size := ⟨_, rfl⟩
        obtain ⟨w2, hw2⟩ : ∃ w2, w2 = w1.alloc (.cells #[.int .i64 gk, .int .i64 ga, .int .i64 gb, .slice gao gn gc] 28) := ⟨_, rfl⟩
        have hb2 : Below w.heap.size w w2 := by rw [hw2]; exact HB1.out.2.alloc HB1.out.2.size _
        have k2 : Blk w2 Q 28 #[.int .i64 gk, .int .i64 ga, .int .i64 gb, .slice gao gn gc] := by rw [hw2, hQ]; exact Blk.new _ _ _
        have ht2 : TodoAt w2 Q 0 g v gk ga gb gao gn gc a b 0 := ⟨HSH.out, k2.cell 0, k2.cell 1, k2.cell 2, k2.cell 3, HV.out.1.on hb2, fun q hq => absurd hq (Nat.not_lt_zero _), HV.out.2.2.2.imp id (fun h => ⟨rfl, h⟩), hkd⟩
        have hs2 : NthSt (wide g) (nthS g 0 i) w2 i [] (.slice none 0 0) (some ⟨Q, 0, none⟩) 1 1 (muG g 0) := .more Q 0 g v gk ga gb gao gn gc a b 0 rfl rfl (Nat.le_refl _) (by simp [Value.ownBlock]) ht2 HV.out.2.1 rfl (by omega) (by omega) (by omega) (by rw [tot_cnt HV.out.2.1 (by rw [← HN.out]; exact hcn), ← HN.out]; omega) (List.nil_append _).symm _ rfl
        have HI0 := Lib.hid (And.intro hs2 (And.intro (World.ownsRow_nil w2 w.heap.size 3 1) hb2))
        have HW2 := Lib.hid hw2
        have HBB := Lib.hid hB
        rw [← hQ, ← hw2]
        clear hQ hw2 hb2 k2 ht2 hs2 c0 c1 c2 c3
        obtain ⟨ans, hans⟩ : ∃ ans, ans = nthS g 0 i := ⟨_, rfl⟩
        have HA := Lib.hid (show ans.length ≤ 7 by rw [hans]; exact nthS_len HV.out.2.1 i)
        rw [← hans] at HI0 HP
        clear hans
        go_loopg [1, 8, 9] (muG g 0) (fun gq iv ov tv wr => ∃ (i : Int) (out : List Int) (ao : Option Addr) (tn tc : Nat), iv = .int .i64 i ∧ tv = .slice ao tn tc ∧ RowKit.Hid (NthSt (wide g) ans wr i out ov ao tn tc gq ∧ wr.ownsRow w.heap.size 3 1 ov out.length (out.map (.int .i64)) ∧ Below w.heap.size w wr))
        case atStart => exact ⟨i, [], _, 1, 1, rfl, rfl, HI0⟩
        case round =>
          obtain ⟨wo, hwo⟩ : ∃ wo, wo = wr := ⟨_, rfl⟩
          subst hwo
          obtain ⟨ix, out, ao, tn, tc, rfl, rfl, HI⟩ := hrel
          obtain ⟨hst, hown, hbw⟩ := HI.out
          cases hst with
          | done hn eqn =>
            subst hn
            have HO := Lib.hid (And.intro hown (And.intro hbw eqn))
            clear HI hown hbw eqn
            go_wp2_with fail
            go_ret2
            obtain ⟨uo, uc, rfl⟩ := owns_shape HO.out.1
            exact ⟨HO.out.2.1, .inr ⟨ans, uo, uc, HP.out, by rw [HO.out.2.2]; rfl, by rw [HO.out.2.2]; exact IntsAt.of_owns HO.out.1⟩⟩
          | more q o g2 v2 gk2 ga2 gb2 gao2 gn2 gc2 a2 b2 j ht hn hc ap at_ right hw hj ix0 ixb ix1 eqn mu hmu =>
            subst ht hn hmu
            obtain ⟨hab2, hwd, hfk, hM1⟩ := own_right right at_.own
            have hol : out.length ≤ 7 := by
              have h := HA.out
              rw [eqn, List.length_append] at h
              omega
            have c0 := at_.c0
            have c1 := at_.c1
            have c2 := at_.c2
            have c3 := at_.c3
            have hkd2 := at_.kind
            have hk3 : ¬ gk2 = 3 := by omega
            obtain ⟨ro, hro⟩ : ∃ ro, ro = (if tc = 1 then some (⟨q, o, none⟩ : Addr) else some ⟨q, o + 4, none⟩) := ⟨_, rfl⟩
            have hsl : ∀ w, (Instr.slice 26 (.slice (some ⟨q, o, none⟩) (j + 1) tc) (some (.int .i64 1)) none none).run Tryz.prog w = .ok (.slice ro j (tc - 1)) w := fun w => by
              have h := run_slice_l (P := Tryz.prog) (w := w) 26 (some ⟨q, o, none⟩) (j + 1) tc (by kernel_rfl) .i64 1 (by omega) (by omega)
              rw [h]
              have he : Tryz.prog.elem 26 = 28 := by kernel_rfl
              rw [he]
              simp [sizeOf, typeInfo, hi0, hz1, Result.andThen, sliced, hro, go_sem]
            have hroq : ∀ q' p, ro = some ⟨q', p, none⟩ → q' = q := by
              intro q' p h
              rw [hro] at h
              split at h <;> (cases h; rfl)
            have hrest : RunAt wo ro a2 b2 j := by
              rw [hro]
              split
              · intro k hk; omega
              · exact at_.rest
            have hlen : (0 : Int) < ((j + 1 : Nat) : Int) := by omega
            have hql : q < wo.heap.size := World.block_lt_of_cell? wo _ c0
            have hzb := Below.heap_alloc wo (.cells #[.int .i64 0, .int .i64 0, .int .i64 0, .slice none 0 0] 28)
            have e0 : (wo.alloc (.cells #[.int .i64 0, .int .i64 0, .int .i64 0, .slice none 0 0] 28)).cell? ⟨q, o, none⟩ = some (.int .i64 gk2) := (World.cell?_of_block (w := wo) (hzb q hql)).trans c0
            have e1 : (wo.alloc (.cells #[.int .i64 0, .int .i64 0, .int .i64 0, .slice none 0 0] 28)).cell? ⟨q, o + 1, none⟩ = some (.int .i64 ga2) := (World.cell?_of_block (w := wo) (hzb q hql)).trans c1
            have e2 : (wo.alloc (.cells #[.int .i64 0, .int .i64 0, .int .i64 0, .slice none 0 0] 28)).cell? ⟨q, o + 2, none⟩ = some (.int .i64 gb2) := (World.cell?_of_block (w := wo) (hzb q hql)).trans c2
            have e3 : (wo.alloc (.cells #[.int .i64 0, .int .i64 0, .int .i64 0, .slice none 0 0] 28)).cell? ⟨q, o + 3, none⟩ = some (.slice gao2 gn2 gc2) := (World.cell?_of_block (w := wo) (hzb q hql)).trans c3
            have HO := Lib.hid (And.intro hown (And.intro hbw (And.intro eqn (And.intro at_ (And.intro hrest (And.intro right (And.intro hab2 (And.intro ap hroq))))))))
            have HF := Lib.hid (And.intro hwd (And.intro hfk (And.intro hw (And.intro ix0 (And.intro ix1 (And.intro hj ixb))))))
            clear HI hown hbw eqn at_ hrest right hab2 hkd2 hro hzb ap hwd hfk hw hroq
            go_wp2_with fail
            go_region
            obtain ⟨w3, hw3⟩ : ∃ w3, w3 = (wo.alloc (.cells #[.int .i64 gk2, .int .i64 ga2, .int .i64 gb2, .slice gao2 gn2 gc2] 28)).drew := ⟨_, rfl⟩
            have k3 : Blk w3 wo.heap.size 28 #[.int .i64 gk2, .int .i64 ga2, .int .i64 gb2, .slice gao2 gn2 gc2] := by rw [hw3]; exact (Blk.new _ _ _).drew
            have hb3 : Below wo.heap.size wo w3 := by rw [hw3]; exact ((Below.refl _ _).alloc (Nat.le_refl _) _).drew
            obtain ⟨Z, hZ⟩ : ∃ Z, Z = wo.heap.size := ⟨_, rfl⟩
            rw [← hZ] at k3
            rw [← hw3, ← hZ]
            have HP2 := Lib.hid (product_any a2 b2 j (by omega) HO.out.2.2.2.2.2.2.1 ro (tc - 1) w3 (HO.out.2.2.2.2.1.on (Nat.le_refl _) hb3))
            have d0 : w3.cell? ⟨Z, 0, none⟩ = some (.int .i64 gk2) := k3.cell 0
            have HK3 := Lib.hid (And.intro k3 (And.intro hb3 hZ))
            clear hw3 hb3 k3 hZ e0 e1 e2 e3 c0 c1 c2 c3 hsl hql
            go_wp2_with fail
            refine HP2.out.mono ?_
            clear HP2
            rintro e w4 ⟨rfl, hb4⟩
            obtain ⟨p1, hp1⟩ : ∃ p1, p1 = (b2 - a2 + 1) ^ j := ⟨_, rfl⟩
            rw [← hp1]
            have k4 := HK3.out.1.below hb4
            have c0 : w4.cell? ⟨Z, 0, none⟩ = some (.int .i64 gk2) := k4.cell 0
            have c1 : w4.cell? ⟨Z, 1, none⟩ = some (.int .i64 ga2) := k4.cell 1
            have c2 : w4.cell? ⟨Z, 2, none⟩ = some (.int .i64 gb2) := k4.cell 2
            have c3 : w4.cell? ⟨Z, 3, none⟩ = some (.slice gao2 gn2 gc2) := k4.cell 3
            have hb4r := HK3.out.2.1.trans (hb4.mono HK3.out.2.1.size)
            clear d0
            have HBR := Lib.hid (branches_any g2 v2 a2 b2 j HO.out.2.2.2.2.2.1 HO.out.2.2.2.1.own w4 (HO.out.2.2.2.1.gen.on hb4r))
            rw [HO.out.2.2.2.1.shape] at HBR
            have HB4 := Lib.hid (And.intro hb4r hp1)
            clear hb4 hb4r k4 hp1
            go_wp2_with fail
            refine HBR.out.mono ?_
            clear HBR
            rintro e w5 ⟨⟨u, rfl, hbr⟩, hb5⟩
            obtain ⟨bg, bc, rfl, hbc⟩ := hbr
            obtain ⟨M, hM⟩ : ∃ M, M = brN g2 := ⟨_, rfl⟩
            rw [← hM] at hbc hM1 ⊢
            have HB5 := Lib.hid (And.intro hb5 (And.intro hbc hM))
            clear hb5 hbc hM c0 c1 c2 c3
            go_wp2_with fail
            clear ixb ix1
            go_loopw [1, 8, 9, 57] (fun iv ov tv kv wq => ∃ (k : Nat) (iy : Int), iv = .int .i64 iy ∧ ov = u8 ∧ tv = .slice ro j (tc - 1) ∧ kv = .int .i64 (k : Int) ∧ RowKit.Hid (FK (mW g2 j) M k iy ix ∧ k ≤ M ∧ Below w5.heap.size w5 wq)) (fun _ _ _ kv _ => M - (intOf kv).toNat)
            case atStart => exact ⟨0, ix, rfl, rfl, rfl, rfl, Lib.hid ⟨FK.start HF.out.2.2.2.1, Nat.zero_le _, Below.refl _ _⟩⟩
            case round =>
              obtain ⟨k, iy, rfl, rfl, rfl, rfl, HQ⟩ := hrel
              have hkM : k < M := HQ.out.1.more (by rw [HB5.out.2.2]; exact HF.out.2.2.2.2.1) HQ.out.2.1
              obtain ⟨uo, uc, hcell, hrun, hge⟩ := HB5.out.2.1 k hkM
              have hb5q := HQ.out.2.2
              obtain ⟨m, hm⟩ : ∃ m, m = brF g2 k := ⟨_, rfl⟩
              rw [← hm] at hcell hrun
              have hck : wr.cell? ⟨bg, k, none⟩ = some (.slice uo m uc) := (hb5q.cell (p := ⟨bg, k, none⟩) (World.block_lt_of_cell? w5 _ hcell)).trans hcell
              have hm5 : m + j ≤ 5 := by rw [hm]; exact HF.out.2.1 k (by rw [← HB5.out.2.2]; exact hkM) hj
              have HP3 := Lib.hid (product_any a2 b2 m (by omega) HO.out.2.2.2.2.2.2.1 uo uc wr (hrun.on (Nat.le_refl _) hb5q))
              have hk1 : (k : Int) < (M : Int) := by omega
              have hk0 : (0 : Int) ≤ (k : Int) := by omega
              have HR := Lib.hid (And.intro hrun (And.intro hge hm))
              clear hcell hrun hge hb5q hm
              go_wp2_with fail
              refine HP3.out.mono ?_
              clear HP3
              rintro e w6 ⟨rfl, hb6⟩
              obtain ⟨p2, hp2⟩ : ∃ p2, p2 = (b2 - a2 + 1) ^ m := ⟨_, rfl⟩
              rw [← hp2]
              obtain ⟨pr, hpr⟩ : ∃ pr, pr = p1 * p2 := ⟨_, rfl⟩
              have hcw := HO.out.2.2.2.2.2.2.1
              have hpb := pow_le (c := b2 - a2 + 1) (by have := hcw.2.2.1; omega) (by have := hcw.2.2.2; omega) (show j + m ≤ 5 by omega)
              rw [Int.pow_add, ← HB4.out.2, ← hp2, ← hpr] at hpb
              have hw1 : IntKind.i64.wrap (p1 * p2) = pr := by rw [← hpr]; exact IntWalk.i64_in _ (by omega)
              have hw2 : wrap64 (p1 * p2) = pr := by rw [← hpr]; unfold wrap64; omega
              have HMW := Lib.hid (show mW g2 j k = pr by unfold mW; rw [HF.out.1, ← HR.out.2.2, ← HB4.out.2, ← hp2, hpr])
              have hiy0 := HQ.out.1.nn
              have hiy1 : iy ≤ 1048576 := Int.le_trans HQ.out.1.le HF.out.2.2.2.2.2.2
              have HB6 := Lib.hid (And.intro (HB4.out.1.trans ((HB5.out.1.trans ((HQ.out.2.2.trans (hb6.mono HQ.out.2.2.size)).mono HB5.out.1.size)).mono HB4.out.1.size)) (HQ.out.2.2.trans (hb6.mono HQ.out.2.2.size)))
              have HPJ := Lib.hid (show pr = (b2 - a2 + 1) ^ (j + m) by rw [Int.pow_add, ← HB4.out.2, ← hp2, hpr])
              clear hp2 hpr hcw hb6 hck
              by_cases ht : iy < pr
              · have d1 : decide (pr ≤ iy) = false := decide_eq_false (by omega)
                have hOW := owns_below HO.out.1 HB6.out.1
                have HNX := Lib.hid (fun (wz : World) (base : Nat) (ov v : Value) (hap : ∀ q, ov.ownBlock = some q → q < base) (ho : wz.ownsRow base 28 4 v (m + j) (flatG a2 b2 m ++ flatG a2 b2 j)) =>
                  NthSt.go HO.out.2.2.2.2.2.2.1 HF.out.1 HF.out.2.2.1 HR.out.2.2 hm5 HO.out.2.2.2.1.own HO.out.2.2.1 (by rw [← HB5.out.2.2]; exact HQ.out.1.hit hkM (by rw [HMW.out]; exact ht)) hiy0 hiy1 ht HPJ.out hap ho)
                have hlt6 : ∀ p, u8.ownBlock = some p → p < wo.heap.size := fun p hp => (HO.out.1.lt p hp).2
                have hs46 : wo.heap.size ≤ w4.heap.size := HB4.out.1.size
                have hru := (HR.out.1.on (Nat.le_refl _) HB6.out.2)
                have hrr := (HO.out.2.2.2.2.1.on (Nat.le_refl _) HB6.out.1)
                have hbw6 := HO.out.2.1.trans (HB6.out.1.mono HO.out.2.1.size)
                have H6 := Lib.hid (And.intro hOW (And.intro hlt6 (And.intro hs46 (And.intro hru (And.intro hrr hbw6)))))
                have hbs : B ≤ w6.heap.size := by rw [← HBB.out]; exact hbw6.size
                clear hOW hlt6 hs46 hru hrr hbw6 ht hpb
                have hw7 : w.heap.size ≤ w6.heap.size := H6.out.2.2.2.2.2.size
                go_wp2_with (at_builtin; refine wpList_push2 _ rfl _ _ 48 rfl w.heap.size 3 i1 (.int .i64 0) 1 8 Tryz.underlying48 hi1 hy0 hy1 hy2 rfl (by decide) _ _ _ rfl (H6.out.1.alloc _) ⟨w6.heap.size, 0, none⟩ 1 [.int .i64 (k : Int)] rfl rfl (World.news_of_block (cs := #[.int .i64 (k : Int)]) (t := 3) (fr := (0, 0)) (heap_alloc_at _ _ rfl)) (one1 _ _) (by unfold maxLen; omega) (by omega) (by simp; omega) ?_)
                intro g7 cap7 w7 hown7 hgr7 hat7
                have hu7 : RunAt w7 uo a2 b2 m := (H6.out.2.2.2.1.on (Nat.le_refl _) ((Below.refl _ _).alloc (Nat.le_refl _) _)).kept hgr7 (fun q p hq e => by
                  have h1 := H6.out.2.1 q e
                  have h2 := HR.out.2.1 q p hq
                  have h3 := H6.out.2.2.1
                  omega)
                have hr7 : RunAt w7 ro a2 b2 j := (H6.out.2.2.2.2.1.on (Nat.le_refl _) ((Below.refl _ _).alloc (Nat.le_refl _) _)).kept hgr7 (fun q1 p hq e => by
                  have h1 := HO.out.2.2.2.2.2.2.2.2 q1 p hq
                  rw [h1] at e
                  exact HO.out.2.2.2.2.2.2.2.1 e)
                have hb7 := (H6.out.2.2.2.2.2.alloc hw7 (.cells #[.int .i64 (k : Int)] 3)).grown hgr7 (by simp; omega) (fun q hq => by have := (H6.out.1.lt q hq).1; omega)
                have hlt7 := (hown7.lt g7 rfl).2
                have H7 := Lib.hid (And.intro hu7 (And.intro hr7 (And.intro hb7 (And.intro hown7 hlt7))))
                clear hu7 hr7 hb7 hown7 hgr7 hat7 hlt7
                go_wp2_with (at_builtin; refine wpList_append_all _ rfl _ _ 26 rfl w7.heap.size 28 i0 _ 4 48 Tryz.underlying26 hi0 hz0 hz1 hz2 rfl (by decide) _ 0 [] rfl (owns_empty (Nat.le_refl _) (heap_alloc_at _ _ rfl)) uo m uc (flatG a2 b2 m) rfl (flatG_len _ _ _) H7.out.1.none ((H7.out.1.on (Nat.le_refl _) ((Below.refl _ _).alloc (Nat.le_refl _) _)).news) (flatG_one _ _ _) (by unfold maxLen; omega) (by omega) (by simp) ?_)
                intro v9 w9 hown9 hgr9
                obtain ⟨o9, n9, rfl⟩ := owns_shape hown9
                have hb9 := ((Below.refl w7.heap.size w7).alloc (Nat.le_refl _) (.cells #[] 28)).grown hgr9 (by simp) (fun q hq => by simp only [Value.ownBlock, Option.some.injEq] at hq; omega)
                have H9 := Lib.hid (And.intro hb9 (And.intro hown9 (H7.out.2.1.on (Nat.le_refl _) hb9)))
                clear hb9 hown9 hgr9
                have hs9 : w7.heap.size ≤ w9.heap.size := H9.out.1.size
                go_wp2_with (at_builtin; refine wpList_append_all _ rfl _ _ 26 rfl w7.heap.size 28 i0 _ 4 48 Tryz.underlying26 hi0 hz0 hz1 hz2 rfl (by decide) _ m _ rfl H9.out.2.1 ro j (tc - 1) (flatG a2 b2 j) rfl (flatG_len _ _ _) H9.out.2.2.none H9.out.2.2.news (flatG_one _ _ _) (by unfold maxLen; omega) (by omega) hs9 ?_)
                intro v10 w10 hown10 hgr10
                have hb10 := H9.out.1.grown hgr10 (by omega) (fun q hq => (H9.out.2.1.lt q hq).1)
                obtain ⟨ao10, tc10, mu, rfl, hmu, hst⟩ := HNX.out w10 w7.heap.size (.slice (some ⟨g7, 0, none⟩) (out.length + 1) cap7) v10 (fun q hq => by cases hq; exact H7.out.2.2.2.2) hown10
                have HE := Lib.hid (And.intro hst (And.intro hmu (And.intro (owns_below H7.out.2.2.2.1 hb10) (H7.out.2.2.1.trans (hb10.mono H7.out.2.2.1.size)))))
                clear hown10 hgr10 hb10 hst hmu
                go_wp2_with fail
                go_roundg mu
                case rel => exact ⟨iy, out ++ [(k : Int)], ao10, _, tc10, rfl, rfl, Lib.hid ⟨HE.out.1, by rw [List.length_append, List.map_append, HBB.out]; exact HE.out.2.2.1, HE.out.2.2.2⟩⟩
                case measure => exact HE.out.2.1
              · have d1 : decide (pr ≤ iy) = true := decide_eq_true (by omega)
                have hw3 : IntKind.i64.wrap (iy - pr) = iy - pr := IntWalk.i64_in _ (by omega)
                have hw4 : wrap64 (iy - pr) = iy - pr := by unfold wrap64; omega
                have hw5 : IntKind.i64.wrap ((k : Int) + 1) = ((k + 1 : Nat) : Int) := by rw [IntWalk.i64_in _ (by omega)]; omega
                have HN2 := Lib.hid (show FK (mW g2 j) M (k + 1) (iy - pr) ix by
                  have := HQ.out.1.next hkM (by rw [HMW.out]; exact ht) (by rw [HMW.out]; exact hpb.1)
                  rw [HMW.out] at this
                  exact this)
                clear hpb
                go_wp2_with fail
                go_roundw
                case rel => exact ⟨k + 1, iy - pr, rfl, rfl, rfl, by go_num, Lib.hid ⟨HN2.out, by omega, HB6.out.2⟩⟩
                case measure => simp [intOf]; omega
end Go.Proofs.YtalbllijahiiiaaGreatDoor
end

section
namespace Go.Proofs.YtalbllijahiiiaaGreatDoor
open Go.RowKit Go.Mine Go.Mine.Desk

theorem playN_full (a m : Int) : ∀ r : List Int, (∀ x ∈ r, 0 ≤ x ∧ x ≤ m) → playN a m r.length r = .ok (r.map (a + ·), [])
  | [], _ => rfl
  | x :: r, h => by
    have hx := h x List.mem_cons_self
    rw [List.length_cons, playN, if_neg (by omega), playN_full a m r (fun z hz => h z (List.mem_cons_of_mem _ hz))]
    rfl
theorem drawMany_b {m : Int} (hm : 0 ≤ m) : ∀ (k : Nat) (s : Seed), (drawMany m k s).1.length = k ∧ ∀ x ∈ (drawMany m k s).1, 0 ≤ x ∧ x ≤ m
  | 0, s => ⟨rfl, fun x hx => by simp [drawMany] at hx⟩
  | k + 1, s => by
    obtain ⟨h1, h2⟩ := drawMany_b hm k s
    rw [drawMany]
    refine ⟨by simp [h1], fun x hx => ?_⟩
    rw [List.mem_append, List.mem_singleton] at hx
    rcases hx with hx | rfl
    · exact h2 x hx
    · have := Seed.below_b (drawMany m k s).2 (n := m + 1) (by omega)
      omega
theorem draw_replay {g : G} (hr : g.right) (s : Seed) : ∃ x, replay g (draw g s) = .ok x := by
  cases g with
  | int a b =>
    have h1 := hr.2.2.1
    have h2 := Seed.below_b s (n := b - a + 1) (by omega)
    have h := playN_full a (b - a) [s.below (b - a + 1)] (by intro x hx; rw [List.mem_singleton] at hx; subst hx; omega)
    rw [List.length_singleton] at h
    refine ⟨.num (a + s.below (b - a + 1)), ?_⟩
    rw [draw, replay, h]
    rfl
  | many n a b =>
    have h0 := hr.1
    have h1 := hr.2.2.2.2.1
    have h2 := Seed.below_b s (n := n + 1) (by omega)
    obtain ⟨h3, h4⟩ := drawMany_b (m := b - a) (by omega) (s.below (n + 1)).toNat s.next
    have h := playN_full a (b - a) _ h4
    rw [h3] at h
    refine ⟨.list ((drawMany (b - a) (s.below (n + 1)).toNat s.next).1.map (a + ·)), ?_⟩
    rw [draw, replay, if_neg (by omega), h]
    rfl
def runF (g : G) (n : Int) : Nat → Seed → Int → Int × Option (List Int × Int)
  | 0, _, r => (r, none)
  | f + 1, s, r => if bad g n (draw g s.own) = true then (r + 1, some (walk g n (draw g s.own))) else runF g n f s.left (r + 1)
def runR (g : G) (n sd many : Int) : Except Int (Int × Option (List Int × Int)) := if many < 0 ∨ 50 < many then .error 1 else .ok (runF g n many.toNat (Seed.new sd) 0)
theorem runF_bad {g : G} {n : Int} {f : Nat} {s : Seed} {r : Int} (h : bad g n (draw g s.own) = true) : runF g n (f + 1) s r = (r + 1, some (walk g n (draw g s.own))) := by rw [runF, if_pos h]
theorem runF_ok {g : G} {n : Int} {f : Nat} {s : Seed} {r : Int} (h : bad g n (draw g s.own) = false) : runF g n (f + 1) s r = runF g n f s.left (r + 1) := by rw [runF, if_neg (by rw [h]; simp)]
theorem Seed.left_ok {s : Seed} (h : s.ok) : s.left.ok := Seed.next_ok (Seed.next_ok h)
def RunPost (g : G) (n sd many : Int) (w : World) (e : Ending) (w' : World) : Prop :=
  Below w.heap.size w w' ∧ ((∃ c, runR g n sd many = .error c ∧ e = .returned (.tuple #[.agg #[.int .i64 0, .bool false, .slice none 0 0, .int .i64 0], .iface 36 (.int .i64 c)])) ∨
    (∃ r, runR g n sd many = .ok (r, none) ∧ i64ok r ∧ e = .returned (.tuple #[.agg #[.int .i64 r, .bool false, .slice none 0 0, .int .i64 0], .nilIface])) ∨
    (∃ r l k uo uc, runR g n sd many = .ok (r, some (l, k)) ∧ i64ok r ∧ i64ok k ∧ l.length ≤ 6 ∧ tape1 l ∧ e = .returned (.tuple #[.agg #[.int .i64 r, .bool true, .slice uo l.length uc, .int .i64 k], .nilIface]) ∧ IntsAt .i64 w' uo l ∧ ∀ q o, uo = some ⟨q, o, none⟩ → w.heap.size ≤ q))
end Go.Proofs.YtalbllijahiiiaaGreatDoor
end
