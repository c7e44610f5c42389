/- PoolFinds: what the asker keeps, and answers. No conditions. -/
import Derived.Test.YtffpkfgohmhbnaaDoorD
import Derived.Test.YtffpkfgohmhbnaaDoorQIn
import Derived.Test.YtffpkfgohmhbnaaDoorSInts
import Derived.Test.YtffpkfgohmhbnaaDoorTold
namespace Go.Proofs.YtffpkfgohmhbnaaDoor
open Go.RowKit Go.Mine

/-- What PoolFinds' closure keeps: how many asks; that all were within. -/
structure JF (W : World) (n : Int) (so : List Int) (sa : Option Addr) (sc : Nat) (k : Nat) (w : World) : Prop where
  n : w.cell? ⟨W.heap.size, 0, none⟩ = some (.int .i64 n)
  so : w.cell? ⟨W.heap.size + 1, 0, none⟩ = some (.slice sa so.length sc)
  asks : w.cell? ⟨W.heap.size + 1 + 1, 0, none⟩ = some (.int .i64 k)
  within : w.cell? ⟨W.heap.size + 1 + 1 + 1, 0, none⟩ = some (.bool true)
  fa : w.frozen? ⟨W.heap.size + 1 + 1, 0, none⟩ = false
  fw : w.frozen? ⟨W.heap.size + 1 + 1 + 1, 0, none⟩ = false
  size : W.heap.size + 4 ≤ w.heap.size
  below : Below W.heap.size W w
theorem JF.on {W : World} {n : Int} {so : List Int} {sa : Option Addr} {sc k : Nat} {w w' : World} (h : JF W n so sa sc k w) {B : Nat} (hB : W.heap.size + 4 ≤ B) (hb : Below B w w') : JF W n so sa sc k w' :=
  ⟨(hb.cell (by dsimp; omega)).trans h.n, (hb.cell (by dsimp; omega)).trans h.so, (hb.cell (by dsimp; omega)).trans h.asks, (hb.cell (by dsimp; omega)).trans h.within, (hb.frozen (by dsimp; omega)).trans h.fa, (hb.frozen (by dsimp; omega)).trans h.fw, Nat.le_trans h.size hb.size, h.below.trans (hb.mono (by omega))⟩

/-- What is answered, and kept. -/
def Asked (W : World) (n a b : Int) (so : List Int) (sa : Option Addr) (sc k : Nat) (w : World) (e : Ending) (w' : World) : Prop := ∃ c, e = .returned (.bool c) ∧ Tru so a b c ∧ JF W n so sa sc (k + 1) w' ∧ Low (W.heap.size + 4) w w'

set_option maxHeartbeats 1000000 in
theorem asked_any (W : World) (n a b : Int) (so : List Int) (sa : Option Addr) (sc k : Nat) (h0 : 0 ≤ a) (hab : a < b) (hn : b ≤ n) (hk : k < 100000) (hx : IntsAt .i64 W sa so) (hl : so.length ≤ maxLen) (w : World) (hJ : JF W n so sa sc k w) :
    Calls Tryd.prog 5 #[.int .i64 a, .int .i64 b, .pointer (some ⟨W.heap.size + 1 + 1, 0, none⟩), .pointer (some ⟨W.heap.size + 1 + 1 + 1, 0, none⟩), .pointer (some ⟨W.heap.size, 0, none⟩), .pointer (some ⟨W.heap.size + 1, 0, none⟩)] w (Asked W n a b so sa sc k w) := by
  obtain ⟨c1, c2, c3, c4, f1, f2, hs, hb⟩ := id hJ
  obtain ⟨w1, hw1⟩ : ∃ w1, w1 = (w.setCell ⟨W.heap.size + 1 + 1, 0, none⟩ (.int .i64 (k + 1))).setCell ⟨W.heap.size + 1 + 1 + 1, 0, none⟩ (.bool true) := ⟨_, rfl⟩
  have HW1 := Lib.hid hw1
  have HJ1 := Lib.hid (show JF W n so sa sc (k + 1) w1 from by
    rw [hw1]
    refine ⟨?_, ?_, ?_, ?_, ?_, ?_, by simpa using hs, (hb.setCell (by dsimp; omega) _).setCell (by dsimp; omega) _⟩ <;> simp [go_sem, c1, c2, c3, c4, f1, f2])
  have HL1 := Lib.hid (show Low (W.heap.size + 4) w w1 from by rw [hw1]; exact ((Low.refl _ _).setCell (by dsimp; omega) _).setCell (by dsimp; omega) _)
  have HX := Lib.hid (show IntsAt .i64 w1 sa so from hx.below (Nat.le_refl _) HJ1.out.below)
  have hd1 : decide (0 ≤ a) = true := by rw [decide_eq_true_iff]; exact h0
  have hd2 : decide (a < b) = true := by rw [decide_eq_true_iff]; exact hab
  have hd3 : decide (b ≤ n) = true := by rw [decide_eq_true_iff]; exact hn
  unfold maxLen at hl
  clear hx hJ hb hw1
  go_enter Tryd.func5, Tryd.ntmps5
  go_wp2_with fail
  rw [← HW1.out]
  have c2' := HJ1.out.so
  clear c1 c2 c3 c4 f1 f2 hd1 hd2 hd3
  go_loop [9] (fun iv => ∃ i : Nat, iv = .int .i64 i ∧ i ≤ so.length ∧ RowKit.Hid (∀ j, j < i → ¬ (a ≤ so.getD j 0 ∧ so.getD j 0 < b))) (fun iv => so.length - (intOf iv).toNat)
  case atStart => exact ⟨0, rfl, by omega, Lib.hid (fun j hj => by omega)⟩
  case round =>
    obtain ⟨i, rfl, hi, hall⟩ := hrel
    by_cases hlt : i < so.length
    · obtain ⟨b', o, rfl, hc⟩ := HX.out i hlt
      have hmem : so.getD i 0 ∈ so := by simp [hlt]
      obtain ⟨x, hx⟩ : ∃ x, x = so.getD i 0 := ⟨_, rfl⟩
      rw [← hx] at hc hmem
      have HXX := Lib.hid hx
      have HM := Lib.hid hmem
      clear hx hmem
      by_cases g1 : a ≤ x
      · have e1 : decide (a ≤ x) = true := by rw [decide_eq_true_iff]; exact g1
        by_cases g2 : x < b
        · have e2 : decide (x < b) = true := by rw [decide_eq_true_iff]; exact g2
          go_wp2_with fail
          go_ret
          exact ⟨_, rfl, ⟨fun _ => ⟨x, g1, g2, HM.out⟩, fun _ => rfl⟩, HJ1.out, HL1.out⟩
        · have e2 : decide (x < b) = false := by rw [decide_eq_false_iff_not]; exact g2
          go_wp2_with fail
          go_round
          case rel => exact ⟨i + 1, by go_num, by omega, Lib.hid (fun j hj => by
            by_cases e : j = i
            · subst e; rw [← HXX.out]; omega
            · exact hall.out j (by omega))⟩
          case measure => simp [intOf]; omega
      · have e1 : decide (a ≤ x) = false := by rw [decide_eq_false_iff_not]; exact g1
        go_wp2_with fail
        go_round
        case rel => exact ⟨i + 1, by go_num, by omega, Lib.hid (fun j hj => by
          by_cases e : j = i
          · subst e; rw [← HXX.out]; omega
          · exact hall.out j (by omega))⟩
        case measure => simp [intOf]; omega
    · have hie : i = so.length := by omega
      subst hie
      have HNO := Lib.hid (show ¬ ∃ x, a ≤ x ∧ x < b ∧ x ∈ so from by
        rintro ⟨x, g1, g2, g3⟩
        obtain ⟨j, hj, rfl⟩ := List.mem_iff_getElem.1 g3
        exact hall.out j hj (by simp [hj]; exact ⟨g1, g2⟩))
      go_wp2_with fail
      go_ret
      exact ⟨_, rfl, ⟨fun h => by (cases h), fun h => absurd h HNO.out⟩, HJ1.out, HL1.out⟩
theorem run5 (a b : Int) (x y z u : Value) (w : World) : Sem.run Tryd.prog (callFunc 5 (#[.int .i64 a, .int .i64 b] ++ #[x, y, z, u])) w = .ok (.enter 5 (#[.int .i64 a, .int .i64 b] ++ #[x, y, z, u])) w := by kernel_rfl
theorem three_any (a b : Int) (w : World) :
    Calls Tryd.prog 6 #[.int .i64 a, .int .i64 b] w fun e w' => e = .returned (.bool (decide (a ≤ 3 ∧ 3 < b))) ∧ w = w' := by
  by_cases h : a ≤ 3
  · have h2 : decide (a ≤ 3 ∧ 3 < b) = decide (3 < b) := by simp [h]
    rw [h2]
    clear h2
    go_enter Tryd.func6, Tryd.ntmps6
    go_wp2
    go_ret
    exact ⟨rfl, rfl⟩
  · have h2 : decide (a ≤ 3 ∧ 3 < b) = false := by simp [h]
    rw [h2]
    clear h2
    go_enter Tryd.func6, Tryd.ntmps6
    go_wp2
    go_ret
    exact ⟨rfl, rfl⟩
theorem run6 (a b : Int) (w : World) : Sem.run Tryd.prog (callFunc 6 (#[.int .i64 a, .int .i64 b] ++ #[])) w = .ok (.enter 6 (#[.int .i64 a, .int .i64 b] ++ #[])) w := by kernel_rfl
/-- The example: just 3. -/
theorem fact_any (W : World) : Calls Tryd.prog 4 #[.int .i64 5, .func (.func 6) #[] #[]] W fun e w' => ∃ g cap, e = .returned (.tuple #[.slice (some ⟨g, 0, none⟩) 1 cap, .nilIface]) ∧ w'.cell? ⟨g, 0, none⟩ = some (.int .i64 3) ∧ Below W.heap.size W w' := by
  refine (find_any 6 #[] 5 (by omega) (fun _ w => Below W.heap.size W w) (fun a b c => c = decide (a ≤ 3 ∧ 3 < b)) W (Below.refl _ _) (fun _ _ _ h h' => h.trans h') run6 ?_).mono ?_
  · intro a b k w _ _ _ _ hb
    refine (three_any a b w).mono ?_
    rintro e w' ⟨rfl, rfl⟩
    exact ⟨_, rfl, rfl, hb, Low.refl _ _⟩
  · rintro e w' ⟨v, L, k, rfl, hk, hb, ho, _⟩
    obtain rfl := only_three hk
    rcases ho.2 with ⟨_, h⟩ | ⟨g, cap, cur, rfl, _⟩
    · simp at h
    · exact ⟨g, cap, rfl, by have := ho.cellAt 0 (by simp); simpa using this, hb⟩
/-- An error's number. -/
def Num (x : Value) (c : Int) : Prop := (x = .nilIface ∧ c = 0) ∨ x = .iface 29 (.int .i64 c)
theorem error_is (x : Value) (c d : Int) (hx : Num x c) (w : World) (hg : Laid w) :
    Calls Tryd.prog 7 #[x, .int .i64 d] w fun e w' => e = .returned (.bool (c == d)) ∧ Below w.heap.size w w' := by
  have H := told_any x c hx w hg
  go_enter Tryd.func7, Tryd.ntmps7
  go_wp2_with fail
  refine H.mono ?_
  rintro e w' ⟨rfl, hb⟩
  clear H
  go_wp2_with fail
  go_ret
  exact ⟨rfl, hb⟩
end Go.Proofs.YtffpkfgohmhbnaaDoor
