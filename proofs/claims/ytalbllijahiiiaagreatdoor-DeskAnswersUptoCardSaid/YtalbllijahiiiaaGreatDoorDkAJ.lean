/- slices.Clone, Delete at tapes; rose.Less$2. desk.must, limit. rose.Less: what is less, plainly; how a round begins. -/
import Derived.Test.YtalbllijahiiiaaGreatDoorDkAI
section
namespace Go.Proofs.YtalbllijahiiiaaGreatDoor
open Go.RowKit Go.Mine Go.Mine.Desk

theorem clone_any (ao : Option Addr) (c : Nat) (l : List Int) (hl : l.length ≤ 2000000) (w : World) (hat : IntsAt .i64 w ao l) : Calls Tryz.prog 92 #[.slice ao l.length c] w fun e w' => (∃ vo vc, e = .returned (.slice vo l.length vc) ∧ w'.ownsRow w.heap.size 3 1 (.slice vo l.length vc) l.length (l.map (.int .i64))) ∧ Below w.heap.size w w' := by
  cases ao with
  | none =>
    have h0 : l = [] := by
      cases l with
      | nil => rfl
      | cons x r => obtain ⟨b, o, h, _⟩ := hat 0 (by simp); cases h
    subst h0
    refine (Tryz.slices_Clone_int_nil 0 c w).mono ?_
    rintro e w' ⟨rfl, rfl⟩
    exact ⟨⟨none, 0, rfl, World.ownsRow_nil _ _ _ _⟩, Below.refl _ _⟩
  | some a =>
    rcases Nat.eq_zero_or_pos l.length with h0 | h0
    · obtain rfl : l = [] := List.eq_nil_of_length_eq_zero h0
      refine (Tryz.slices_Clone_int_zero a c w).mono ?_
      rintro e w' ⟨v', rfl, hv, _, hb⟩
      obtain ⟨vo, vc, rfl⟩ := owns_shape hv
      exact ⟨⟨vo, vc, rfl, hv⟩, hb⟩
    · obtain ⟨b, o, hbo, _⟩ := hat 0 h0
      cases hbo
      refine (Tryz.slices_Clone_int b o l.length c l w (Nat.le_refl _) (by omega) (fun j hj => ?_)).mono ?_
      · obtain ⟨b', o', h1, h2⟩ := hat j hj
        cases h1
        exact h2
      · rintro e w' ⟨v', rfl, hv, _, hb⟩
        rw [List.take_length] at hv
        obtain ⟨vo, vc, rfl⟩ := owns_shape hv
        exact ⟨⟨vo, vc, rfl, hv⟩, hb⟩
theorem putAt_all : ∀ (vs xs : List Value) (o : Nat), o + vs.length = xs.length → putAt xs o vs = xs.take o ++ vs
  | [], xs, o, h => by simp [putAt] at h ⊢; rw [List.take_of_length_le (by omega)]
  | v :: r, xs, o, h => by
    rw [putAt, putAt_all r (xs.set o v) (o + 1) (by simp at h ⊢; omega)]
    rw [List.take_add_one]
    simp at h
    simp [List.take_set_of_le, show o < xs.length by omega]
theorem del_any (vo : Option Addr) (vc i base : Nat) (l : List Int) (hi : i < l.length) (w : World) (hown : w.ownsRow base 3 1 (.slice vo l.length vc) l.length (l.map (.int .i64))) :
    Calls Tryz.prog 93 #[.slice vo l.length vc, .int .i64 (i : Int), .int .i64 ((i + 1 : Nat) : Int)] w fun e w' => e = .returned (.slice vo (l.length - 1) vc) ∧ w'.ownsRow base 3 1 (.slice vo (l.length - 1) vc) (l.eraseIdx i).length ((l.eraseIdx i).map (.int .i64)) ∧ w.grownBy w' (Value.slice vo l.length vc).ownBlock := by
  rcases id hown.2 with ⟨_, h0⟩ | ⟨g, cap, cur, h1, hb, hbk, hnc, hmx, hsz, htk⟩
  · omega
  · simp only [Value.slice.injEq] at h1
    obtain ⟨rfl, _, rfl⟩ := h1
    refine (Tryz.slices_Delete_int_cells g 0 l.length vc i (i + 1) l w (Nat.le_refl _) hnc (by unfold maxLen at hmx; omega) (by omega) (by omega) (fun j hj => ?_) (fun j hj => ?_)).mono ?_
    · rw [Nat.zero_add, hown.cellAt j (by omega)]
      simp [hj]
    · rw [Nat.zero_add]; exact hown.frozenAt j
    · rintro e w' ⟨rfl, q, rfl⟩
      rw [show i + 1 - i = 1 by omega]
      obtain ⟨s1, s2⟩ := stored_cells (((l.take l.length).take i ++ (l.take l.length).drop (i + 1) ++ List.replicate 1 0).map (Value.int .i64)) (w.drewN q) _ 0 (show (w.drewN q).ownsRow base 3 1 (.slice (some ⟨g, 0, none⟩) l.length vc) l.length (l.map (.int .i64)) from hown)
      rw [putAt_all _ _ _ (by simp; omega)] at s1
      have s3 := owns_cut (k := l.length - 1) s1 (by omega)
      have hel : (l.eraseIdx i).length = l.length - 1 := by rw [List.length_eraseIdx]; simp [hi]
      refine ⟨rfl, ?_, ⟨s2.os, s2.tape, s2.output, s2.size, s2.block⟩⟩
      rw [hel]
      have he : (List.take 0 (l.map (Value.int .i64)) ++ ((l.take l.length).take i ++ (l.take l.length).drop (i + 1) ++ List.replicate 1 0).map (Value.int .i64)).take ((l.length - 1) * 1) = (l.eraseIdx i).map (.int .i64) := by
        rw [List.take_length, List.eraseIdx_eq_take_drop_succ]
        simp only [List.take_zero, List.nil_append, List.map_append]
        rw [List.take_append_of_le_length (by simp; omega), List.take_of_length_le (by simp; omega)]
      rw [he] at s3
      exact s3
set_option maxRecDepth 100000 in
set_option maxHeartbeats 1000000 in
theorem set_any (ao : Option Addr) (c i : Nat) (x : Int) (l : List Int) (hl : l.length ≤ 2000000) (hi : i < l.length) (tB : Nat) (w : World) (kt : Blk w tB 48 #[.slice ao l.length c]) (hat : IntsAt .i64 w ao l) :
    Calls Tryz.prog 91 #[.int .i64 (i : Int), .int .i64 x, .pointer (some ⟨tB, 0, none⟩)] w fun e w' => (∃ vo vc, e = .returned (.slice vo l.length vc) ∧ w'.ownsRow w.heap.size 3 1 (.slice vo l.length vc) l.length ((l.set i x).map (.int .i64))) ∧ Below w.heap.size w w' := by
  have c0 : w.cell? ⟨tB, 0, none⟩ = some (.slice ao l.length c) := kt.cell 0
  have HC := Lib.hid (clone_any ao c l hl w hat)
  have hi0 : (0 : Int) ≤ (i : Int) := by omega
  have hi1 : (i : Int) < (l.length : Int) := by omega
  clear kt hat
  go_enter Tryz.func91, Tryz.ntmps91
  go_wp2_with fail
  refine HC.out.mono ?_
  clear HC
  rintro e w1 ⟨⟨vo, vc, rfl, hown⟩, hb1⟩
  rcases id hown.2 with ⟨_, h0⟩ | ⟨g, cap, cur, h1, hb, hbk, hnc, hmx, hsz, htk⟩
  · omega
  · simp only [Value.slice.injEq] at h1
    obtain ⟨rfl, _, rfl⟩ := h1
    have d0 : w1.cell? ⟨g, i, none⟩ = some (.int .i64 (l.getD i 0)) := by rw [hown.cellAt i (by omega)]; simp [hi]
    have f0 := hown.frozenAt i
    have HS := Lib.hid (hown.stored i (.int .i64 x)).1
    have HB := Lib.hid (hb1.setCell (p := ⟨g, i, none⟩) hb (.int .i64 x))
    clear hown hb1 hb hbk hsz htk
    go_wp2_with fail
    go_ret
    exact ⟨⟨_, _, rfl, by rw [List.map_set]; exact HS.out⟩, HB.out⟩
end Go.Proofs.YtalbllijahiiiaaGreatDoor
end

section
namespace Go.Proofs.YtalbllijahiiiaaGreatDoor
open Go.RowKit Go.Mine Go.Mine.Desk

theorem neq_nil (w : World) : (binOp BinOp.neq 100 .nilIface .nilIface).run Tryz.prog w = .ok (.bool false) w := by kernel_rfl
theorem neq_errno (c : Int) (w : World) : (binOp BinOp.neq 100 (.iface 36 (.int .i64 c)) .nilIface).run Tryz.prog w = .ok (.bool true) w := by kernel_rfl
theorem must_int (x : Int) (w : World) : Calls Tryz.prog 49 #[.int .i64 x, .nilIface] w fun e w' => e = .returned (.int .i64 x) ∧ w' = w := by
  have h1 := neq_nil
  go_enter Tryz.func49, Tryz.ntmps49
  go_wp2_with fail
  go_ret
  exact ⟨rfl, rfl⟩
theorem must_int_err (v : Value) (c : Int) (w : World) : Calls Tryz.prog 49 #[v, .iface 36 (.int .i64 c)] w fun e w' => e = panics c ∧ w' = w := by
  have h1 := neq_errno c
  go_enter Tryz.func49, Tryz.ntmps49
  go_wp2_with fail
  exact body_panics ⟨rfl, rfl⟩
theorem must_tape (ao : Option Addr) (n c : Nat) (w : World) : Calls Tryz.prog 53 #[.slice ao n c, .nilIface] w fun e w' => e = .returned (.slice ao n c) ∧ w' = w := by
  have h1 := neq_nil
  go_enter Tryz.func53, Tryz.ntmps53
  go_wp2_with fail
  go_ret
  exact ⟨rfl, rfl⟩
theorem must_tape_err (v : Value) (c : Int) (w : World) : Calls Tryz.prog 53 #[v, .iface 36 (.int .i64 c)] w fun e w' => e = panics c ∧ w' = w := by
  have h1 := neq_errno c
  go_enter Tryz.func53, Tryz.ntmps53
  go_wp2_with fail
  exact body_panics ⟨rfl, rfl⟩
theorem must_rows (ao : Option Addr) (n c : Nat) (w : World) : Calls Tryz.prog 61 #[.slice ao n c, .nilIface] w fun e w' => e = .returned (.slice ao n c) ∧ w' = w := by
  have h1 := neq_nil
  go_enter Tryz.func61, Tryz.ntmps61
  go_wp2_with fail
  go_ret
  exact ⟨rfl, rfl⟩
theorem must_rows_err (v : Value) (c : Int) (w : World) : Calls Tryz.prog 61 #[v, .iface 36 (.int .i64 c)] w fun e w' => e = panics c ∧ w' = w := by
  have h1 := neq_errno c
  go_enter Tryz.func61, Tryz.ntmps61
  go_wp2_with fail
  exact body_panics ⟨rfl, rfl⟩
theorem must_val (k : Bool) (z : Int) (ao : Option Addr) (n c : Nat) (w : World) : Calls Tryz.prog 57 #[.agg #[.bool k, .int .i64 z, .slice ao n c], .nilIface] w fun e w' => e = .returned (.agg #[.bool k, .int .i64 z, .slice ao n c]) ∧ Below w.heap.size w w' := by
  have h1 := neq_nil
  go_enter Tryz.func57, Tryz.ntmps57
  go_wp2_with fail
  have k1 : Blk ((w.alloc (.cells #[.bool k, .int .i64 z, .slice ao n c] 53)).alloc (.cells #[.bool k, .int .i64 z, .slice ao n c] 53)) (w.heap.size + 1) 53 #[.bool k, .int .i64 z, .slice ao n c] := by have := Blk.new (w.alloc (.cells #[.bool k, .int .i64 z, .slice ao n c] 53)) 53 #[.bool k, .int .i64 z, .slice ao n c]; simpa using this
  have d0 := k1.cell 0
  have d1 := k1.cell 1
  have d2 := k1.cell 2
  simp only [List.getElem?_toArray, List.getElem?_cons_zero, List.getElem?_cons_succ] at d0 d1 d2
  refine bodyPost_ret (v := .agg #[.bool k, .int .i64 z, .slice ao n c]) (by simp [results, Tryz.results57, go_sem, d0, d1, d2]) rfl ⟨rfl, ?_⟩
  exact ((Below.refl w.heap.size w).alloc (Nat.le_refl _) _).alloc (by simp) _
theorem must_val_err (k : Bool) (z : Int) (ao : Option Addr) (n c : Nat) (cc : Int) (w : World) : Calls Tryz.prog 57 #[.agg #[.bool k, .int .i64 z, .slice ao n c], .iface 36 (.int .i64 cc)] w fun e w' => e = panics cc ∧ Below w.heap.size w w' := by
  have h1 := neq_errno cc
  have HB := Lib.hid (show Below w.heap.size w ((w.alloc (.cells #[.bool k, .int .i64 z, .slice ao n c] 53)).alloc (.cells #[.bool false, .int .i64 0, .slice none 0 0] 53)) from ((Below.refl w.heap.size w).alloc (Nat.le_refl _) _).alloc (by simp) _)
  go_enter Tryz.func57, Tryz.ntmps57
  go_wp2_with fail
  exact body_panics ⟨rfl, HB.out⟩
set_option maxRecDepth 100000 in
theorem limit_any (n : Int) (w : World) : Calls Tryz.prog 11 #[.int .i64 n] w fun e w' => (∃ eb, e = .returned (wholeE eb) ∧ w.heap.size ≤ eb ∧ ExprAt w' eb n) ∧ Below w.heap.size w w' := by
  go_enter Tryz.func11, Tryz.ntmps11
  go_wp2_with fail
  have hb : Below w.heap.size w ((w.alloc (.cells #[.int .i64 7, .int .i64 0, .slice (some ⟨w.heap.size + 1, 0, none⟩) 2 2] 41)).alloc (.cells #[.int .i64 2, .int .i64 0, .slice none 0 0, .int .i64 1, .int .i64 n, .slice none 0 0] 41)) := ((Below.refl w.heap.size w).alloc (Nat.le_refl _) _).alloc (by simp) _
  have k0 : Blk ((w.alloc (.cells #[.int .i64 7, .int .i64 0, .slice (some ⟨w.heap.size + 1, 0, none⟩) 2 2] 41)).alloc (.cells #[.int .i64 2, .int .i64 0, .slice none 0 0, .int .i64 1, .int .i64 n, .slice none 0 0] 41)) w.heap.size 41 #[.int .i64 7, .int .i64 0, .slice (some ⟨w.heap.size + 1, 0, none⟩) 2 2] := (Blk.new _ _ _).alloc _
  have k1 : Blk ((w.alloc (.cells #[.int .i64 7, .int .i64 0, .slice (some ⟨w.heap.size + 1, 0, none⟩) 2 2] 41)).alloc (.cells #[.int .i64 2, .int .i64 0, .slice none 0 0, .int .i64 1, .int .i64 n, .slice none 0 0] 41)) (w.heap.size + 1) 41 #[.int .i64 2, .int .i64 0, .slice none 0 0, .int .i64 1, .int .i64 n, .slice none 0 0] := by have := Blk.new (w.alloc (.cells #[.int .i64 7, .int .i64 0, .slice (some ⟨w.heap.size + 1, 0, none⟩) 2 2] 41)) 41 #[.int .i64 2, .int .i64 0, .slice none 0 0, .int .i64 1, .int .i64 n, .slice none 0 0]; simpa using this
  have d0 := k0.cell 0
  have d1 := k0.cell 1
  have d2 := k0.cell 2
  simp only [List.getElem?_toArray, List.getElem?_cons_zero, List.getElem?_cons_succ] at d0 d1 d2
  refine bodyPost_ret (v := wholeE (w.heap.size + 1)) (by simp [results, Tryz.results11, go_sem, d0, d1, d2]) rfl ⟨⟨w.heap.size + 1, rfl, by omega, k1⟩, hb⟩
end Go.Proofs.YtalbllijahiiiaaGreatDoor
end

section
namespace Go.Proofs.YtalbllijahiiiaaGreatDoor
open Go.RowKit Go.Mine Go.Mine.Desk

theorem kept_filter (g : G) (l : List Int) : ∀ ts : List (List Int), (ts.map (mend g)).filter (fun m => tapeLt m l) = ts.flatMap (kept g l)
  | [] => rfl
  | t :: r => by
    rw [List.map_cons, List.filter_cons, List.flatMap_cons, kept_filter g l r]
    unfold kept
    cases tapeLt (mend g t) l <;> simp
theorem lessAt_kept (g : G) (l : List Int) (i : Nat) : lessAt g l i = (tries l i).flatMap (kept g l) := kept_filter g l _
theorem less_snoc (g : G) (l : List Int) (i : Nat) : (List.range (i + 1)).flatMap (lessAt g l) = (List.range i).flatMap (lessAt g l) ++ lessAt g l i := by
  rw [List.range_succ, List.flatMap_append]; simp
theorem kept_len (g : G) (l t : List Int) : (kept g l t).length ≤ 1 := by unfold kept; split <;> simp
theorem lessAt_len (g : G) (l : List Int) (i : Nat) : (lessAt g l i).length ≤ 4 := by
  unfold lessAt
  refine Nat.le_trans (List.length_filter_le _ _) ?_
  rw [List.length_map]
  unfold tries
  split <;> simp
theorem less_len (g : G) (l : List Int) : ∀ i, ((List.range i).flatMap (lessAt g l)).length ≤ 4 * i
  | 0 => by simp
  | i + 1 => by
    rw [less_snoc, List.length_append]
    have := less_len g l i
    have := lessAt_len g l i
    omega
theorem playN_len {a m : Int} : ∀ {k : Nat} {r zs r' : List Int}, playN a m k r = .ok (zs, r') → r.length = k + r'.length
  | 0, r, zs, r', h => by simp only [playN, Except.ok.injEq, Prod.mk.injEq] at h; rw [h.2]; simp
  | k + 1, [], zs, r', h => by simp [playN] at h
  | k + 1, x :: r, zs, r', h => by
    rw [playN] at h
    split at h
    · cases h
    · cases hp : playN a m k r with
      | error e => rw [hp] at h; cases h
      | ok q =>
        obtain ⟨ys, r2⟩ := q
        rw [hp] at h
        simp only [Except.ok.injEq, Prod.mk.injEq] at h
        obtain ⟨rfl, rfl⟩ := h
        have := playN_len hp
        rw [List.length_cons]
        omega
theorem replay_short {g : G} (hr : g.right) {ts : List Int} {x : V} (h : replay g ts = .ok x) : ts.length ≤ 6 := by
  cases g with
  | int a b =>
    rw [replay] at h
    cases hp : playN a (b - a) 1 ts with
    | error e => rw [hp] at h; cases h
    | ok q =>
      obtain ⟨zs, r⟩ := q
      rw [hp] at h
      simp only at h
      split at h
      · rename_i hr0
        have := playN_len hp
        rw [hr0] at this
        simp at this
        omega
      · cases h
  | many n a b =>
    obtain ⟨hn0, hn5, _⟩ := hr
    cases ts with
    | nil => cases h
    | cons k l =>
      rw [replay] at h
      split at h
      · cases h
      · cases hp : playN a (b - a) k.toNat l with
        | error e => rw [hp] at h; cases h
        | ok q =>
          obtain ⟨zs, r⟩ := q
          rw [hp] at h
          simp only at h
          split at h
          · rename_i hr0
            have := playN_len hp
            rw [hr0] at this
            simp at this ⊢
            omega
          · cases h
theorem less2_enters (args : Array Value) (w : World) : Sem.run Tryz.prog (callFunc 91 args) w = .ok (.enter 91 args) w := by kernel_rfl
theorem less1_enters (args : Array Value) (w : World) : Sem.run Tryz.prog (callFunc 88 args) w = .ok (.enter 88 args) w := by kernel_rfl
theorem GridOwn.three {w w7 : World} {B g cap : Nat} {v0 v1 v2 : Value} {r0 r1 r2 : List Int} {cs : Array Value} (h0 : w.ownsRow B 3 1 v0 r0.length (r0.map (.int .i64))) (h1 : w.ownsRow B 3 1 v1 r1.length (r1.map (.int .i64))) (h2 : w.ownsRow B 3 1 v2 r2.length (r2.map (.int .i64)))
    (hown : w7.ownsRow B 48 1 (.slice (some ⟨g, 0, none⟩) 3 cap) 3 [v0, v1, v2]) (hgr : (w.alloc (.cells cs 48)).grownBy w7 none) : GridOwn w7 B (.slice (some ⟨g, 0, none⟩) 3 cap) [r0, r1, r2] := by
  have hk : ∀ {v : Value} {r : List Int}, w.ownsRow B 3 1 v r.length (r.map (.int .i64)) → w7.ownsRow B 3 1 v r.length (r.map (.int .i64)) := fun h => owns_same h fun g hg => by
    have hlt := (h.lt g hg).2
    rw [hgr.block g (by simp; omega) (fun e => by cases e), Below.heap_alloc w _ g hlt]
  refine ⟨[v0, v1, v2], hown, fun j hj => ?_⟩
  have : j = 0 ∨ j = 1 ∨ j = 2 := by simp at hj; omega
  rcases this with rfl | rfl | rfl
  · exact ⟨v0, rfl, hk h0⟩
  · exact ⟨v1, rfl, hk h1⟩
  · exact ⟨v2, rfl, hk h2⟩
end Go.Proofs.YtalbllijahiiiaaGreatDoor
end
