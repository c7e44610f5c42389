/- bound.Edges. -/
import Derived.Test.YtlmhdklleenjbaaDoorShelf
import Derived.Test.YtlmhdklleenjbaaDoorOwnSort
import Derived.Test.YtlmhdklleenjbaaDoorA
namespace Go.Proofs.YtlmhdklleenjbaaDoor
open Go.RowKit Go.Mine Go.Sort

/-- A slice of numbers of the call's own. -/
def Own (w : World) (base g cap : Nat) (xs : List Int) : Prop := w.ownsRow base 3 1 (.slice (some ⟨g, 0, none⟩) xs.length cap) xs.length (xs.map (Value.int .i64))

theorem edge_pred (x lo hi : Int) (pb qb : Addr) (w : World) (h1 : w.cell? pb = some (.int .i64 lo)) (h2 : w.cell? qb = some (.int .i64 hi)) :
    Calls Tryd.prog 11 #[.int .i64 x, .pointer (some pb), .pointer (some qb)] w fun e w' => e = .returned (.bool (decide (x < lo ∨ hi < x))) ∧ ∃ m, w' = w.drewN m := by
  by_cases c1 : x < lo
  · rw [decide_eq_true (Or.inl c1)]
    go_enter Tryd.func11, Tryd.ntmps11
    go_wp2_with fail
    go_ret
    exact ⟨rfl, 0, rfl⟩
  · by_cases c2 : hi < x
    · rw [decide_eq_true (Or.inr c2)]
      go_enter Tryd.func11, Tryd.ntmps11
      go_wp2_with fail
      go_ret
      exact ⟨rfl, 0, rfl⟩
    · rw [decide_eq_false (fun h => h.elim c1 c2)]
      go_enter Tryd.func11, Tryd.ntmps11
      go_wp2_with fail
      go_ret
      exact ⟨rfl, 0, rfl⟩
theorem enters10 (args : Array Value) (w : World) : (callFunc 11 args).run Tryd.prog w = .ok (.enter 11 args) w := by kernel_rfl

/-- What is kept. -/
def kept (lo hi : Int) (xs : List Int) : List Int := xs.filter fun x => !decide (x < lo ∨ hi < x)
theorem delete_own (lo hi : Int) (pb qb : Addr) (w : World) (base g cap : Nat) (xs : List Int) (ho : Own w base g cap xs) (h1 : w.cell? pb = some (.int .i64 lo)) (h2 : w.cell? qb = some (.int .i64 hi)) (n1 : pb.block ≠ g) (n2 : qb.block ≠ g) :
    Calls Tryd.prog 10 #[.slice (some ⟨g, 0, none⟩) xs.length cap, .func (.func 11) #[] #[.pointer (some pb), .pointer (some qb)]] w fun e w' => e = .returned (.slice (some ⟨g, 0, none⟩) (kept lo hi xs).length cap) ∧ Own w' base g cap (kept lo hi xs) ∧ w.grownBy w' (some g) := by
  obtain ⟨hh, hc, hm⟩ := own_holds ho
  have hm' : xs.length ≤ 9223372036854775807 := by unfold maxLen at hm; omega
  have l1 := World.block_lt_of_cell? w _ h1
  have l2 := World.block_lt_of_cell? w _ h2
  have hD := Tryd.slices_DeleteFunc (Value.int .i64) (fun _ => rfl) (fun x => decide (x < lo ∨ hi < x)) 11 #[.pointer (some pb), .pointer (some qb)] enters10 0 Tryd.zeroValue3 g 0 cap xs.toArray w
    (fun W x hb => edge_pred x lo hi pb qb W ((hb.cell l1).trans h1) ((hb.cell l2).trans h2))
    (fun n os dk x _ => edge_pred x lo hi pb qb _ ((World.cell?_of_block ((grownBy_sortedI (n := n) (os := os) dk).block _ l1 (fun e => n1 (Option.some.inj e)))).trans h1) ((World.cell?_of_block ((grownBy_sortedI (n := n) (os := os) dk).block _ l2 (fun e => n2 (Option.some.inj e)))).trans h2))
    hh (by simpa using hm') (by simpa using hc)
  have e1 : (xs.toArray.toList.filter fun x => !decide (x < lo ∨ hi < x)) = kept lo hi xs := rfl
  rw [e1] at hD
  simp only [List.size_toArray] at hD
  refine hD.mono ?_
  rintro e w' ⟨rfl, q, rfl⟩
  have hcut := own_cut (ys := kept lo hi xs) ho (List.length_filter_le _ _) q
  exact ⟨rfl, hcut.1, hcut.2⟩
theorem sort_own (w : World) (base g cap : Nat) (xs : List Int) (hs : xs.length ≤ 1000) (ho : Own w base g cap xs) :
    Calls Tryd.prog 12 #[.slice (some ⟨g, 0, none⟩) xs.length cap] w fun e w' => e = .returned (.tuple #[]) ∧ Own w' base g cap (xs.mergeSort fun x y => decide (x ≤ y)) ∧ w.grownBy w' (some g) := by
  obtain ⟨hh, hc, hm⟩ := own_holds ho
  refine (Tryd.slices_Sort_int g 0 cap xs w hh (ho.lt g rfl).2 (by omega)).mono ?_
  rintro e w' ⟨rfl, n, os, rfl⟩
  have h := own_put (ts := xs.mergeSort fun x y => decide (x ≤ y)) ho (List.length_mergeSort _) n os
  refine ⟨rfl, ?_, h.2⟩
  unfold Own
  rw [List.length_mergeSort]
  exact h.1
theorem compact_own (w : World) (base g cap : Nat) (zs : List Int) (n : Nat) (hn : zs.length = n) (ho : Own w base g cap zs) :
    Calls Tryd.prog 13 #[.slice (some ⟨g, 0, none⟩) n cap] w fun e w' => e = .returned (.slice (some ⟨g, 0, none⟩) (Lib.compact zs).length cap) ∧ Own w' base g cap (Lib.compact zs) ∧ w.grownBy w' (some g) := by
  subst hn
  obtain ⟨hh, hc, hm⟩ := own_holds ho
  refine (Tryd.slices_Compact_int g 0 cap zs w hh (by unfold maxLen at hm; omega) hc).mono ?_
  rintro e w' ⟨rfl, q, rfl⟩
  have hcut := own_cut (ys := Lib.compact zs) ho (Lib.compact_length_le zs) q
  exact ⟨rfl, hcut.1, hcut.2⟩

/-- The five numbers. -/
def five (lo hi : Int) : List Int := [lo, lo + 1, lo + (hi - lo) / 2, hi - 1, hi]
def edgeL (lo hi : Int) : List Int := sorted (kept lo hi (five lo hi))

theorem edges_ok (lo hi : Int) (W : World) (h1 : lo ≤ hi) (h2 : -1073741824 ≤ lo) (h3 : hi ≤ 1073741824) :
    Calls Tryd.prog 5 #[.int .i64 lo, .int .i64 hi] W fun e w' => ∃ g cap, e = .returned (.tuple #[.slice (some ⟨g, 0, none⟩) (edgeL lo hi).length cap, .nilIface]) ∧ Own w' W.heap.size g cap (edgeL lo hi) ∧ Below W.heap.size W w' := by
  obtain ⟨w0, hw0⟩ : ∃ w0, w0 = (((W.alloc (.cells #[.int .i64 lo] 3)).alloc (.cells #[.int .i64 hi] 3)).alloc (.cells #[.int .i64 lo, .int .i64 (lo + 1), .int .i64 (lo + (hi - lo) / 2), .int .i64 (hi - 1), .int .i64 hi] 3)) := ⟨_, rfl⟩
  have ho : Own w0 W.heap.size (W.heap.size + 1 + 1) 5 (five lo hi) := by
    have := World.ownsRow_lit (base := W.heap.size) (e := 3) (size := 1) ((W.alloc (.cells #[.int .i64 lo] 3)).alloc (.cells #[.int .i64 hi] 3)) #[.int .i64 lo, .int .i64 (lo + 1), .int .i64 (lo + (hi - lo) / 2), .int .i64 (hi - 1), .int .i64 hi] 5 (by simp; omega) (by unfold maxLen; omega) rfl
    rw [← hw0] at this
    simpa [Own, five] using this
  have hb0 : Below W.heap.size W w0 := by
    rw [hw0]
    exact (((Below.refl _ _).alloc (Nat.le_refl _) _).alloc (by simp) _).alloc (by simp; omega) _
  have c1 : w0.cell? ⟨W.heap.size, 0, none⟩ = some (.int .i64 lo) := by rw [hw0]; simp [go_sem]
  have c2 : w0.cell? ⟨W.heap.size + 1, 0, none⟩ = some (.int .i64 hi) := by rw [hw0]; simp [go_sem]
  have HD := Lib.hid (delete_own lo hi _ _ w0 W.heap.size (W.heap.size + 1 + 1) 5 (five lo hi) ho c1 c2 (by simp; omega) (by simp))
  have HB0 := Lib.hid hb0
  have hk5 : (kept lo hi (five lo hi)).length ≤ 5 := List.length_filter_le _ _
  have hdef : sorted (kept lo hi (five lo hi)) = edgeL lo hi := rfl
  obtain ⟨K, hK⟩ : ∃ K, K = kept lo hi (five lo hi) := ⟨_, rfl⟩
  rw [← hK] at hk5 hdef HD
  rw [← hdef]
  clear ho hb0 c1 c2 hdef hK
  rw [hw0] at HD HB0
  clear hw0 w0
  go_enter Tryd.func5, Tryd.ntmps5
  go_wp2_with fail
  refine (check_ok lo hi _ h1 h2 h3).mono ?_
  rintro e w' ⟨rfl, rfl⟩
  go_wp2_with fail
  refine HD.out.mono ?_
  clear HD
  rintro e w1 ⟨rfl, ho1, hg1⟩
  have hb1 := HB0.out.grown hg1 HB0.out.size (fun k hk => by simp at hk; omega)
  have HB1 := Lib.hid hb1
  have HS := Lib.hid (sort_own w1 _ _ _ K (by omega) ho1)
  clear ho1 hg1 hb1 HB0
  go_wp2_with fail
  refine HS.out.mono ?_
  clear HS
  rintro e w2 ⟨rfl, ho2, hg2⟩
  have HB2 := Lib.hid (HB1.out.grown hg2 HB1.out.size (fun k hk => by simp at hk; omega))
  have HC := Lib.hid (compact_own w2 _ _ _ _ K.length (List.length_mergeSort _) ho2)
  clear ho2 hg2 HB1
  go_wp2_with fail
  refine HC.out.mono ?_
  clear HC
  rintro e w3 ⟨rfl, ho3, hg3⟩
  have hb3 := HB2.out.grown hg3 HB2.out.size (fun k hk => by simp at hk; omega)
  go_wp2_with fail
  go_ret2
  exact ⟨_, _, rfl, ho3, hb3⟩
theorem edges_bad (lo hi : Int) (W : World) (h : hi < lo ∨ lo < -1073741824 ∨ 1073741824 < hi) :
    Calls Tryd.prog 5 #[.int .i64 lo, .int .i64 hi] W fun e w' => e = .returned (.tuple #[.slice none 0 0, .iface 22 (.int .i64 1)]) ∧ Below W.heap.size W w' := by
  have HB := Lib.hid (((Below.refl W.heap.size W).alloc (Nat.le_refl _) (.cells #[.int .i64 lo] 3)).alloc (by simp) (.cells #[.int .i64 hi] 3))
  have HC := Lib.hid (check_bad lo hi ((W.alloc (.cells #[.int .i64 lo] 3)).alloc (.cells #[.int .i64 hi] 3)) h)
  go_enter Tryd.func5, Tryd.ntmps5
  go_wp2_with fail
  refine HC.out.mono ?_
  rintro e w' ⟨rfl, rfl⟩
  go_wp2_with fail
  go_ret2
  exact ⟨rfl, HB.out⟩
end Go.Proofs.YtlmhdklleenjbaaDoor
