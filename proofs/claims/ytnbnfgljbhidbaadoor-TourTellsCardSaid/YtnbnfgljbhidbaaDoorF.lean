/- toured(), and TourRound's walk. -/
import Derived.Test.YtnbnfgljbhidbaaDoorE
import Derived.Test.YtnbnfgljbhidbaaDoorSInts
namespace Go.Proofs.YtnbnfgljbhidbaaDoor
open Go.RowKit Go.Mine Go.Mine.Tour Go.Deep

theorem bal_two : Bal 2 [(0, 1), (1, 0)] := by
  intro v h0 h2
  have : v = 0 ∨ v = 1 := by omega
  rcases this with rfl | rfl <;> decide

theorem toured_true (W : World) : Calls Tryd.prog 4 #[] W fun e w' => e = .returned (.bool true) ∧ Below W.heap.size W w' := by
  have hb1 : Below W.heap.size W (W.alloc (.cells #[.int .i64 0, .int .i64 1, .int .i64 1, .int .i64 0] 36)) := (Below.refl _ _).alloc (Nat.le_refl _) _
  have hp : PairsAt (W.alloc (.cells #[.int .i64 0, .int .i64 1, .int .i64 1, .int .i64 0] 36)) (some ⟨W.heap.size, 0, none⟩) [(0, 1), (1, 0)] := by
    intro j hj
    refine ⟨_, 0, rfl, ?_⟩
    match j, hj with
    | 0, _ => simp [go_sem]
    | 1, _ => simp [go_sem]
  have HRD := Lib.hid (round_any 2 [(0, 1), (1, 0)] _ 2 _ hp (by unfold maxLen; simp))
  have hok : ok 2 [(0, 1), (1, 0)] := ⟨by omega, by omega, by simp, by simp⟩
  have HOK := Lib.hid hok
  clear hp hok
  go_enter Tryd.func4, Tryd.ntmps4
  go_wp2_with fail
  refine HRD.out.mono ?_
  rintro e w2 ⟨hp, hb2⟩
  rcases hp with ⟨h, _⟩ | ⟨_, h, _⟩ | ⟨_, _, next, out, hend, hcase⟩
  · exact absurd HOK.out h
  · exact absurd bal_two h
  · have hlen := hend.walked (by simp [Walk]) (by simp)
    rcases hcase with ⟨h, _⟩ | ⟨_, ao, cap, rfl, hi⟩
    · exact absurd hlen h
    · have hrev := two_round hend
      have hl3 : out.length = 3 := hlen
      rw [hrev] at hi
      rw [hl3]
      have hb3 : Below W.heap.size W w2 := hb1.trans (hb2.mono (by simp))
      have hsz := hb3.size
      have hb4 := hb3.alloc hsz (.cells #[.int .i64 0, .int .i64 1, .int .i64 0] 3)
      have hl : IntsAt .i64 (w2.alloc (.cells #[.int .i64 0, .int .i64 1, .int .i64 0] 3)) (some ⟨w2.heap.size, 0, none⟩) [0, 1, 0] := by
        intro j hj
        refine ⟨_, 0, rfl, ?_⟩
        match j, hj with
        | 0, _ => simp [go_sem]
        | 1, _ => simp [go_sem]
        | 2, _ => simp [go_sem]
      have HI := Lib.hid (Ints_any [0, 1, 0] [0, 1, 0] ao (some ⟨w2.heap.size, 0, none⟩) cap 3 _ (hi.below (Nat.le_refl _) ((Below.refl _ _).alloc (Nat.le_refl _) _)) hl (by unfold maxLen; simp))
      have HB4 := Lib.hid hb4
      clear hb1 hb2 hb3 hb4 hl hi hend hlen hrev hl3
      go_wp2_with fail
      refine HI.out.mono ?_
      rintro e w3 ⟨rfl, nd, rfl⟩
      go_wp2_with fail
      go_ret
      exact ⟨rfl, below_drewN HB4.out _⟩

theorem cnt_take (a b : Int) (l : List Int) (k : Nat) (hk : k + 1 < l.length) : cnt a b (l.take (k + 1 + 1)) = cnt a b (l.take (k + 1)) + (if l.getD k 0 = a ∧ l.getD (k + 1) 0 = b then 1 else 0) := by
  have h1 : l.take (k + 1) = l.take k ++ [l.getD k 0] := by
    rw [List.take_succ_eq_append_getElem (by omega)]; simp [show k < l.length by omega]
  have h2 : l.take (k + 1 + 1) = l.take k ++ [l.getD k 0, l.getD (k + 1) 0] := by
    rw [List.take_succ_eq_append_getElem hk, h1]; simp [hk]
  rw [h1, h2, cnt_snoc]
theorem count_take (p : Int × Int) (es : List (Int × Int)) (k : Nat) (hk : k < es.length) : (es.take (k + 1)).count p = (es.take k).count p + (if es.getD k (0, 0) = p then 1 else 0) := by
  rw [List.take_succ_eq_append_getElem hk, List.count_append, List.count_singleton]
  simp [hk]
theorem cnt_le (a b : Int) : ∀ l : List Int, cnt a b l ≤ l.length
  | [] => by simp [cnt]
  | [_] => by simp [cnt]
  | x :: y :: t => by
    have := cnt_le a b (y :: t)
    simp only [cnt, List.length_cons] at this ⊢
    split <;> omega
end Go.Proofs.YtnbnfgljbhidbaaDoor
