/- slices.Clone, Delete at tapes; rose.Less$2. -/
import Derived.Test.YtalbllijahiiiaaGreatDoorDesk23
namespace Go.Proofs.YtalbllijahiiiaaGreatDoor
open Go.RowKit Go.Mine Go.Mine.Desk

theorem clone_any (ao : Option Addr) (c : Nat) (l : List Int) (hl : l.length ≤ 2000000) (w : World) (hat : IntsAt .i64 w ao l) : Calls Tryz.prog 92 #[.slice ao l.length c] w fun e w' => (∃ vo vc, e = .returned (.slice vo l.length vc) ∧ w'.ownsRow w.heap.size 3 1 (.slice vo l.length vc) l.length (l.map (.int .i64))) ∧ Below w.heap.size w w' := by
  cases ao with
  | none =>
    have h0 : l = [] := by
      cases l with
      | nil => rfl
      | cons x r => obtain ⟨b, o, h, _⟩ := hat 0 (by simp); cases h
    subst h0
    refine (Tryz.slices_Clone_int_nil 0 c w).mono ?_
    rintro e w' ⟨rfl, rfl⟩
    exact ⟨⟨none, 0, rfl, World.ownsRow_nil _ _ _ _⟩, Below.refl _ _⟩
  | some a =>
    rcases Nat.eq_zero_or_pos l.length with h0 | h0
    · obtain rfl : l = [] := List.eq_nil_of_length_eq_zero h0
      refine (Tryz.slices_Clone_int_zero a c w).mono ?_
      rintro e w' ⟨v', rfl, hv, _, hb⟩
      obtain ⟨vo, vc, rfl⟩ := owns_shape hv
      exact ⟨⟨vo, vc, rfl, hv⟩, hb⟩
    · obtain ⟨b, o, hbo, _⟩ := hat 0 h0
      cases hbo
      refine (Tryz.slices_Clone_int b o l.length c l w (Nat.le_refl _) (by omega) (fun j hj => ?_)).mono ?_
      · obtain ⟨b', o', h1, h2⟩ := hat j hj
        cases h1
        exact h2
      · rintro e w' ⟨v', rfl, hv, _, hb⟩
        rw [List.take_length] at hv
        obtain ⟨vo, vc, rfl⟩ := owns_shape hv
        exact ⟨⟨vo, vc, rfl, hv⟩, hb⟩
theorem putAt_all : ∀ (vs xs : List Value) (o : Nat), o + vs.length = xs.length → putAt xs o vs = xs.take o ++ vs
  | [], xs, o, h => by simp [putAt] at h ⊢; rw [List.take_of_length_le (by omega)]
  | v :: r, xs, o, h => by
    rw [putAt, putAt_all r (xs.set o v) (o + 1) (by simp at h ⊢; omega)]
    rw [List.take_add_one]
    simp at h
    simp [List.take_set_of_le, show o < xs.length by omega]
theorem del_any (vo : Option Addr) (vc i base : Nat) (l : List Int) (hi : i < l.length) (w : World) (hown : w.ownsRow base 3 1 (.slice vo l.length vc) l.length (l.map (.int .i64))) :
    Calls Tryz.prog 93 #[.slice vo l.length vc, .int .i64 (i : Int), .int .i64 ((i + 1 : Nat) : Int)] w fun e w' => e = .returned (.slice vo (l.length - 1) vc) ∧ w'.ownsRow base 3 1 (.slice vo (l.length - 1) vc) (l.eraseIdx i).length ((l.eraseIdx i).map (.int .i64)) ∧ w.grownBy w' (Value.slice vo l.length vc).ownBlock := by
  rcases id hown.2 with ⟨_, h0⟩ | ⟨g, cap, cur, h1, hb, hbk, hnc, hmx, hsz, htk⟩
  · omega
  · simp only [Value.slice.injEq] at h1
    obtain ⟨rfl, _, rfl⟩ := h1
    refine (Tryz.slices_Delete_int_cells g 0 l.length vc i (i + 1) l w (Nat.le_refl _) hnc (by unfold maxLen at hmx; omega) (by omega) (by omega) (fun j hj => ?_) (fun j hj => ?_)).mono ?_
    · rw [Nat.zero_add, hown.cellAt j (by omega)]
      simp [hj]
    · rw [Nat.zero_add]; exact hown.frozenAt j
    · rintro e w' ⟨rfl, q, rfl⟩
      rw [show i + 1 - i = 1 by omega]
      obtain ⟨s1, s2⟩ := stored_cells (((l.take l.length).take i ++ (l.take l.length).drop (i + 1) ++ List.replicate 1 0).map (Value.int .i64)) (w.drewN q) _ 0 (show (w.drewN q).ownsRow base 3 1 (.slice (some ⟨g, 0, none⟩) l.length vc) l.length (l.map (.int .i64)) from hown)
      rw [putAt_all _ _ _ (by simp; omega)] at s1
      have s3 := owns_cut (k := l.length - 1) s1 (by omega)
      have hel : (l.eraseIdx i).length = l.length - 1 := by rw [List.length_eraseIdx]; simp [hi]
      refine ⟨rfl, ?_, ⟨s2.os, s2.tape, s2.output, s2.size, s2.block⟩⟩
      rw [hel]
      have he : (List.take 0 (l.map (Value.int .i64)) ++ ((l.take l.length).take i ++ (l.take l.length).drop (i + 1) ++ List.replicate 1 0).map (Value.int .i64)).take ((l.length - 1) * 1) = (l.eraseIdx i).map (.int .i64) := by
        rw [List.take_length, List.eraseIdx_eq_take_drop_succ]
        simp only [List.take_zero, List.nil_append, List.map_append]
        rw [List.take_append_of_le_length (by simp; omega), List.take_of_length_le (by simp; omega)]
      rw [he] at s3
      exact s3
set_option maxRecDepth 100000 in
set_option maxHeartbeats 1000000 in
theorem set_any (ao : Option Addr) (c i : Nat) (x : Int) (l : List Int) (hl : l.length ≤ 2000000) (hi : i < l.length) (tB : Nat) (w : World) (kt : Blk w tB 48 #[.slice ao l.length c]) (hat : IntsAt .i64 w ao l) :
    Calls Tryz.prog 91 #[.int .i64 (i : Int), .int .i64 x, .pointer (some ⟨tB, 0, none⟩)] w fun e w' => (∃ vo vc, e = .returned (.slice vo l.length vc) ∧ w'.ownsRow w.heap.size 3 1 (.slice vo l.length vc) l.length ((l.set i x).map (.int .i64))) ∧ Below w.heap.size w w' := by
  have c0 : w.cell? ⟨tB, 0, none⟩ = some (.slice ao l.length c) := kt.cell 0
  have HC := Lib.hid (clone_any ao c l hl w hat)
  have hi0 : (0 : Int) ≤ (i : Int) := by omega
  have hi1 : (i : Int) < (l.length : Int) := by omega
  clear kt hat
  go_enter Tryz.func91, Tryz.ntmps91
  go_wp2_with fail
  refine HC.out.mono ?_
  clear HC
  rintro e w1 ⟨⟨vo, vc, rfl, hown⟩, hb1⟩
  rcases id hown.2 with ⟨_, h0⟩ | ⟨g, cap, cur, h1, hb, hbk, hnc, hmx, hsz, htk⟩
  · omega
  · simp only [Value.slice.injEq] at h1
    obtain ⟨rfl, _, rfl⟩ := h1
    have d0 : w1.cell? ⟨g, i, none⟩ = some (.int .i64 (l.getD i 0)) := by rw [hown.cellAt i (by omega)]; simp [hi]
    have f0 := hown.frozenAt i
    have HS := Lib.hid (hown.stored i (.int .i64 x)).1
    have HB := Lib.hid (hb1.setCell (p := ⟨g, i, none⟩) hb (.int .i64 x))
    clear hown hb1 hb hbk hsz htk
    go_wp2_with fail
    go_ret
    exact ⟨⟨_, _, rfl, by rw [List.map_set]; exact HS.out⟩, HB.out⟩
end Go.Proofs.YtalbllijahiiiaaGreatDoor
