/- shrink.Walk$1, rose.Less$1. -/
import Derived.Test.YtalbllijahiiiaaGreatDoorDesk21
namespace Go.Proofs.YtalbllijahiiiaaGreatDoor
open Go.RowKit Go.Mine Go.Mine.Desk

set_option maxRecDepth 100000 in
set_option maxHeartbeats 1000000 in
theorem walk1_any (g : G) (v : Value) (hr : g.right) (n : Int) (eb gB eB : Nat) (ts : List Int) (ao : Option Addr) (m c : Nat) (hm : ts.length = m) (hl : m ≤ maxLen) (gk ga gb : Int) (gao : Option Addr) (gn gc : Nat) (hsh : v = .agg #[.int .i64 gk, .int .i64 ga, .int .i64 gb, .slice gao gn gc]) (w : World) (hg : Gl w) (he : ExprAt w eb n) (hv : GenAt w v g) (hat : IntsAt .i64 w ao ts)
    (kg : Blk w gB 28 #[.int .i64 gk, .int .i64 ga, .int .i64 gb, .slice gao gn gc]) (ke : Blk w eB 41 #[.int .i64 7, .int .i64 0, .slice (some ⟨eb, 0, none⟩) 2 2]) :
    Calls Tryz.prog 150 #[.slice ao m c, .pointer (some ⟨gB, 0, none⟩), .pointer (some ⟨eB, 0, none⟩)] w fun e w' => e = .returned (.bool (bad g n ts)) ∧ Below w.heap.size w w' := by
  have c0 : w.cell? ⟨gB, 0, none⟩ = some (.int .i64 gk) := kg.cell 0
  have c1 : w.cell? ⟨gB, 1, none⟩ = some (.int .i64 ga) := kg.cell 1
  have c2 : w.cell? ⟨gB, 2, none⟩ = some (.int .i64 gb) := kg.cell 2
  have c3 : w.cell? ⟨gB, 3, none⟩ = some (.slice gao gn gc) := kg.cell 3
  have e0 : w.cell? ⟨eB, 0, none⟩ = some (.int .i64 7) := ke.cell 0
  have e1 : w.cell? ⟨eB, 1, none⟩ = some (.int .i64 0) := ke.cell 1
  have e2 : w.cell? ⟨eB, 2, none⟩ = some (.slice (some ⟨eb, 0, none⟩) 2 2) := ke.cell 2
  have HC := Lib.hid (sfails_any g v hr n eb ts ao m c hm hl w hg he hv hat)
  rw [hsh] at HC
  clear hg he hv hat kg ke hr
  go_enter Tryz.func150, Tryz.ntmps150
  go_wp2_with fail
  refine HC.out.mono ?_
  clear HC
  rintro e w1 ⟨hb1, ⟨x, hx, rfl⟩ | ⟨cc, hx, rfl⟩⟩
  · have HB1 := Lib.hid hb1
    have HX := Lib.hid (show bad g n ts = decide (n ≤ total x) by unfold bad; rw [hx])
    obtain ⟨t, ht⟩ : ∃ t, t = decide (n ≤ total x) := ⟨_, rfl⟩
    rw [← ht] at HX ⊢
    clear hb1 hx ht
    go_wp2_with fail
    go_ret
    exact ⟨by rw [HX.out]; rfl, HB1.out⟩
  · have HB1 := Lib.hid hb1
    have HX := Lib.hid (show bad g n ts = false by unfold bad; rw [hx])
    have hne : ∀ w : World, (binOp BinOp.eql 100 (.iface 36 (.int .i64 cc)) .nilIface).run Tryz.prog w = .ok (.bool false) w := fun _ => by kernel_rfl
    clear hb1 hx
    go_wp2_with fail
    go_ret
    exact ⟨by rw [HX.out]; rfl, HB1.out⟩
/-- Rows of numbers that lie from a block on. -/
def GridOwn (w : World) (B : Nat) (u : Value) (rows : List (List Int)) : Prop := ∃ vs, w.ownsRow B 48 1 u rows.length vs ∧ ∀ j, j < rows.length → ∃ v, vs[j]? = some v ∧ w.ownsRow B 3 1 v (rows.getD j []).length ((rows.getD j []).map (.int .i64))
theorem GridOwn.nil (w : World) (B : Nat) : GridOwn w B (.slice none 0 0) [] := ⟨[], World.ownsRow_nil _ _ _ _, fun j hj => by simp at hj⟩
theorem GridOwn.on {w w' : World} {B : Nat} {u : Value} {rows : List (List Int)} (h : GridOwn w B u rows) (hs : ∀ k, B ≤ k → k < w.heap.size → w'.heap[k]? = w.heap[k]?) : GridOwn w' B u rows := by
  obtain ⟨vs, h1, h2⟩ := h
  refine ⟨vs, owns_same h1 fun g hg => hs g (h1.lt g hg).1 (h1.lt g hg).2, fun j hj => ?_⟩
  obtain ⟨v, h3, h4⟩ := h2 j hj
  exact ⟨v, h3, owns_same h4 fun g hg => hs g (h4.lt g hg).1 (h4.lt g hg).2⟩
theorem GridOwn.below {w w' : World} {B : Nat} {u : Value} {rows : List (List Int)} (h : GridOwn w B u rows) (hb : Below w.heap.size w w') : GridOwn w' B u rows := h.on fun _ _ hk => hb.block _ hk
theorem GridOwn.shape {w : World} {B : Nat} {u : Value} {rows : List (List Int)} (h : GridOwn w B u rows) : ∃ ao c, u = .slice ao rows.length c := by
  obtain ⟨vs, h1, _⟩ := h
  exact owns_shape h1
theorem GridOwn.push {w w7 : World} {B g cap : Nat} {u v : Value} {rows : List (List Int)} {row : List Int} {cs : Array Value} {vs : List Value} (h1 : w.ownsRow B 48 1 u rows.length vs) (h2 : ∀ j, j < rows.length → ∃ v, vs[j]? = some v ∧ w.ownsRow B 3 1 v (rows.getD j []).length ((rows.getD j []).map (.int .i64))) (hr : w.ownsRow B 3 1 v row.length (row.map (.int .i64)))
    (hown : w7.ownsRow B 48 1 (.slice (some ⟨g, 0, none⟩) (rows.length + 1) cap) (rows.length + 1) (vs ++ [v])) (hgr : (w.alloc (.cells cs 48)).grownBy w7 u.ownBlock) : GridOwn w7 B (.slice (some ⟨g, 0, none⟩) (rows.length + 1) cap) (rows ++ [row]) := by
  have hvl : vs.length = rows.length := by have := h1.1; omega
  refine ⟨vs ++ [v], by rw [List.length_append]; exact hown, fun j hj => ?_⟩
  rw [List.length_append, List.length_cons, List.length_nil] at hj
  rcases Nat.lt_or_ge j rows.length with h | h
  · obtain ⟨v', h3, h4⟩ := h2 j h
    have e : (rows ++ [row]).getD j [] = rows.getD j [] := by simp [List.getD_eq_getElem?_getD, List.getElem?_append_left h]
    rw [e]
    exact ⟨v', by rw [List.getElem?_append_left (by omega)]; exact h3, owns_other h4 h1 (by decide) hgr⟩
  · obtain rfl : j = rows.length := by omega
    have e : (rows ++ [row]).getD rows.length [] = row := by simp [List.getD_eq_getElem?_getD]
    rw [e]
    exact ⟨v, by rw [List.getElem?_append_right (by omega), hvl]; simp, owns_other hr h1 (by decide) hgr⟩
end Go.Proofs.YtalbllijahiiiaaGreatDoor
