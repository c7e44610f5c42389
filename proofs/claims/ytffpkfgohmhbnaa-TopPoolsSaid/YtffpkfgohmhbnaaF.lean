import Derived.Test.YtffpkfgohmhbnaaC
import Derived.Test.YtffpkfgohmhbnaaMin
import Derived.Test.YtffpkfgohmhbnaaSInts
namespace Go.Proofs.Ytffpkfgohmhbnaa
open Go.RowKit Go.Mine Go.Mine.Dd

theorem within_any (a b s : Int) (p : Nat) (w : World) (hc : w.cell? ⟨p, 0, none⟩ = some (.int .i64 s)) :
    Calls Try.prog 9 #[.int .i64 a, .int .i64 b, .pointer (some ⟨p, 0, none⟩)] w fun e w' => e = .returned (.bool (decide (a ≤ s ∧ s < b))) ∧ w = w' := by
  by_cases h : a ≤ s
  · have h2 : decide (a ≤ s ∧ s < b) = decide (s < b) := by simp [h]
    rw [h2]
    clear h2
    go_enter Try.func9, Try.ntmps9
    go_wp2
    go_ret
    exact ⟨rfl, rfl⟩
  · have h2 : decide (a ≤ s ∧ s < b) = false := by simp [h]
    rw [h2]
    clear h2
    go_enter Try.func9, Try.ntmps9
    go_wp2
    go_ret
    exact ⟨rfl, rfl⟩
theorem three10_any (a b : Int) (w : World) :
    Calls Try.prog 10 #[.int .i64 a, .int .i64 b] w fun e w' => e = .returned (.bool (decide (a ≤ 3 ∧ 3 < b))) ∧ w = w' := by
  by_cases h : a ≤ 3
  · have h2 : decide (a ≤ 3 ∧ 3 < b) = decide (3 < b) := by simp [h]
    rw [h2]
    clear h2
    go_enter Try.func10, Try.ntmps10
    go_wp2
    go_ret
    exact ⟨rfl, rfl⟩
  · have h2 : decide (a ≤ 3 ∧ 3 < b) = false := by simp [h]
    rw [h2]
    clear h2
    go_enter Try.func10, Try.ntmps10
    go_wp2
    go_ret
    exact ⟨rfl, rfl⟩
theorem run9 (a b : Int) (x : Value) (w : World) : Sem.run Try.prog (callFunc 9 (#[.int .i64 a, .int .i64 b] ++ #[x])) w = .ok (.enter 9 (#[.int .i64 a, .int .i64 b] ++ #[x])) w := by kernel_rfl
theorem run10 (a b : Int) (w : World) : Sem.run Try.prog (callFunc 10 (#[.int .i64 a, .int .i64 b] ++ #[])) w = .ok (.enter 10 (#[.int .i64 a, .int .i64 b] ++ #[])) w := by kernel_rfl
theorem run12 (v x : Value) (w : World) : Sem.run Try.prog (callFunc 12 (#[v] ++ #[x])) w = .ok (.enter 12 (#[v] ++ #[x])) w := by kernel_rfl

theorem fact10_any (W : World) : Calls Try.prog 5 #[.int .i64 5, .func (.func 10) #[] #[]] W fun e w' => ∃ g cap, e = .returned (.tuple #[.slice (some ⟨g, 0, none⟩) 1 cap, .nilIface]) ∧ Below W.heap.size W w' := by
  refine (find_any 10 #[] 5 (by omega) (fun _ w => Below W.heap.size W w) (fun a b c => c = decide (a ≤ 3 ∧ 3 < b)) W (Below.refl _ _) (fun _ _ _ h h' => h.trans h') run10 ?_).mono ?_
  · intro a b k w _ _ _ _ hb
    refine (three10_any a b w).mono ?_
    rintro e w' ⟨rfl, rfl⟩
    exact ⟨_, rfl, rfl, hb, Low.refl _ _⟩
  · rintro e w' ⟨v, L, k, rfl, hk, hb, ho, _⟩
    obtain rfl := only_three hk
    rcases ho.2 with ⟨_, h⟩ | ⟨g, cap, cur, rfl, _⟩
    · simp at h
    · exact ⟨g, cap, rfl, hb⟩

/-- Just one number, if it is within. -/
theorem only_one {L : List Int} {N : Nat} {s : Int} {k : Nat} (h : Lk (fun a b c => c = decide (a ≤ s ∧ s < b)) (N + 1) 0 N L k) : (0 ≤ s ∧ s < N ∧ L = [s]) ∨ (¬ (0 ≤ s ∧ s < N) ∧ L = []) := by
  have hm := h.mem (fun x => x = s) (by intro a b c hc; subst hc; simp) (by omega) (by omega)
  have hs := (h.within (by omega)).2
  match L, hm, hs with
  | [], hm, _ =>
    right
    refine ⟨fun h => ?_, rfl⟩
    have := (hm s).2 ⟨h.1, h.2, rfl⟩
    cases this
  | [x], hm, _ =>
    have h1 := (hm x).1 (by simp)
    obtain ⟨h2, h3, rfl⟩ := h1
    exact .inl ⟨h2, h3, rfl⟩
  | x :: y :: L, hm, hs =>
    have h1 := (hm x).1 (by simp)
    have h2 := (hm y).1 (by simp)
    have := (List.pairwise_cons.1 hs).1 y (by simp)
    omega

theorem find_one (N : Nat) (hN : N ≤ 1000) (s : Int) (W : World) :
    Calls Try.prog 5 #[.int .i64 N, .func (.func 9) #[] #[.pointer (some ⟨W.heap.size, 0, none⟩)]] (W.alloc (.cells #[.int .i64 s] 3)) fun e w' => ∃ ao c L, e = .returned (.tuple #[.slice ao L.length c, .nilIface]) ∧ IntsAt .i64 w' ao L ∧
      ((0 ≤ s ∧ s < N ∧ L = [s]) ∨ (¬ (0 ≤ s ∧ s < N) ∧ L = [])) ∧ Below (W.alloc (.cells #[.int .i64 s] 3)).heap.size (W.alloc (.cells #[.int .i64 s] 3)) w' := by
  have c0 : (W.alloc (.cells #[.int .i64 s] 3)).cell? ⟨W.heap.size, 0, none⟩ = some (.int .i64 s) := by simp [go_sem]
  refine (find_any 9 #[.pointer (some ⟨W.heap.size, 0, none⟩)] N hN (fun _ w => Below (W.alloc (.cells #[.int .i64 s] 3)).heap.size (W.alloc (.cells #[.int .i64 s] 3)) w) (fun a b c => c = decide (a ≤ s ∧ s < b)) _ (Below.refl _ _) (fun _ _ _ h h' => h.trans h') (fun a b w => run9 a b _ w) ?_).mono ?_
  · intro a b k w _ _ _ _ hb
    refine (within_any a b s W.heap.size w ((hb.cell (by simp)).trans c0)).mono ?_
    rintro e w' ⟨rfl, rfl⟩
    exact ⟨_, rfl, rfl, hb, Low.refl _ _⟩
  · rintro e w' ⟨v, L, k, rfl, hk, hb, ho, _⟩
    obtain ⟨ao, c, rfl⟩ := owns_shape ho
    exact ⟨ao, c, L, rfl, IntsAt.of_owns ho, only_one hk, hb⟩

/-- Is one number among them? -/
theorem has_any (s : Int) (p : Nat) (ao : Option Addr) (c : Nat) (xs : List Int) (w : World) (hc : w.cell? ⟨p, 0, none⟩ = some (.int .i64 s)) (hx : IntsAt .i64 w ao xs) (hl : xs.length ≤ 12) :
    Calls Try.prog 12 #[.slice ao xs.length c, .pointer (some ⟨p, 0, none⟩)] w fun e w' => e = .returned (.bool (allIn [s] xs)) ∧ ∃ nd, w' = w.drewN nd := by
  have HX := Lib.hid hx
  clear hx
  go_enter Try.func12, Try.ntmps12
  go_wp2_with fail
  go_loopw [4] (fun i wr => ∃ (k nd : Nat), i = .int .i64 k ∧ k ≤ xs.length ∧ RowKit.Hid (s ∉ xs.take k) ∧ wr = w.drewN nd) (fun i _ => xs.length - (intOf i).toNat)
  case atStart => exact ⟨0, 0, rfl, by omega, Lib.hid (by simp), rfl⟩
  case round =>
    obtain ⟨k, nd, rfl, hk, hno, rfl⟩ := hrel
    by_cases hlt : k < xs.length
    · obtain ⟨b, o, rfl, hcc⟩ := HX.out k hlt
      have ht : xs.take (k + 1) = xs.take k ++ [xs.getD k 0] := by rw [List.take_succ_eq_append_getElem hlt]; simp [hlt]
      have hmem : xs.getD k 0 ∈ xs := by simp [hlt]
      obtain ⟨z, hz⟩ : ∃ z, z = xs.getD k 0 := ⟨_, rfl⟩
      rw [← hz] at hcc ht hmem
      have HT := Lib.hid ht
      have HM := Lib.hid hmem
      clear hz ht hmem
      by_cases he : z = s
      · have hd : (z == s) = true := by simpa using he
        have HE := Lib.hid he
        clear he
        go_wp2_with fail
        go_quiet (fail)
        go_wp2_with fail
        go_ret
        refine ⟨?_, ⟨_, by rw [drewN_succ]⟩⟩
        rw [(allIn_iff [s] xs).2 (by intro x hx; simp at hx; subst hx; rw [← HE.out]; exact HM.out)]
        rfl
      · have hd : (z == s) = false := by simpa using he
        have HE := Lib.hid he
        clear he
        go_wp2_with fail
        go_quiet (fail)
        go_wp2_with fail
        go_roundw
        case rel => exact ⟨k + 1, _, by go_num, by omega, Lib.hid (by rw [HT.out]; intro h; rcases List.mem_append.1 h with h | h; exact hno.out h; simp at h; exact HE.out h.symm), by first | rfl | rw [drewN_succ]⟩
        case measure => simp [intOf]; omega
    · have hke : k = xs.length := by omega
      subst hke
      go_wp2_with fail
      go_ret
      refine ⟨?_, ⟨_, rfl⟩⟩
      have h : allIn [s] xs = false := by
        rw [← Bool.not_eq_true, allIn_iff]
        intro h
        have := hno.out
        rw [List.take_length] at this
        exact this (h s (by simp))
      rw [h]
      rfl

theorem range_take (N : Nat) : (List.range N).map (fun k : Nat => (k : Int)) = (List.range N).map fun k : Nat => (k : Int) := rfl
/-- What is none too many of all. -/
theorem least_one {N : Nat} {s : Int} {m : List Int} (hs : 0 ≤ s ∧ s < N) (h : Least (allIn [s]) ((List.range N).map fun k : Nat => (k : Int)) m) : m = [s] := by
  have hd : ((List.range N).map fun k : Nat => (k : Int)).Nodup := by
    rw [List.nodup_iff_pairwise_ne, List.pairwise_map]
    exact List.nodup_range.imp (fun h e => h (by omega))
  have hm := least_need h hd
  have hmd := h.some_of.nodup hd
  have hin : s ∈ m := (hm s).2 ⟨by simp; exact ⟨s.toNat, by omega, by omega⟩, by simp⟩
  match m, hm, hmd, hin with
  | [x], hm, _, hin => simp at hin; rw [hin]
  | x :: y :: t, hm, hmd, _ =>
    exfalso
    have h1 := ((hm x).1 (by simp)).2
    have h2 := ((hm y).1 (by simp)).2
    simp at h1 h2 hmd
    exact hmd.1.1 (by rw [h1, h2])

theorem min_one (N : Nat) (hN : N ≤ 12) (s : Int) (hs : 0 ≤ s ∧ s < N) (p : Nat) (ao : Option Addr) (c : Nat) (W : World) (hc : W.cell? ⟨p, 0, none⟩ = some (.int .i64 s)) (hx : IntsAt .i64 W ao ((List.range N).map fun k : Nat => (k : Int))) :
    Calls Try.prog 11 #[.slice ao N c, .func (.func 12) #[] #[.pointer (some ⟨p, 0, none⟩)]] W fun e w' => (∃ a2 c2, e = .returned (.tuple #[.slice a2 1 c2, .nilIface]) ∧ IntsAt .i64 w' a2 [s]) ∧ Below W.heap.size W w' := by
  have hp := World.block_lt_of_cell? W _ hc
  have hl : ((List.range N).map fun k : Nat => (k : Int)).length = N := by simp
  have H := min_any 12 #[.pointer (some ⟨p, 0, none⟩)] (allIn [s]) ((List.range N).map fun k : Nat => (k : Int)) ao c W hx (fun h => by
      subst h
      obtain ⟨b, o, h, _⟩ := hx 0 (by simp; omega)
      cases h) (by rw [hl]; unfold maxLen; omega) (fun v w => run12 v _ w) (by
      intro w B v xs hb hB hBw ho h12
      obtain ⟨a3, c3, rfl⟩ := owns_shape ho
      refine (has_any s p a3 c3 xs w ((hb.cell hp).trans hc) (IntsAt.of_owns ho) h12).mono ?_
      rintro e w' ⟨rfl, nd, rfl⟩
      exact ⟨rfl, below_drewN (Below.refl _ _) _⟩)
  rw [hl] at H
  refine H.mono ?_
  rintro e w' ⟨hp2, hb⟩
  refine ⟨?_, hb⟩
  rcases hp2 with ⟨h, _⟩ | ⟨_, h, _⟩ | ⟨_, _, v, m, rfl, hm, ho⟩
  · rw [hl] at h; omega
  · rw [(allIn_iff _ _).2 (by intro x hx; simp at hx; subst hx; simp; exact ⟨x.toNat, by omega, by omega⟩)] at h
    cases h
  · obtain rfl := least_one hs hm
    obtain ⟨a2, c2, rfl⟩ := owns_shape ho
    exact ⟨a2, c2, rfl, IntsAt.of_owns ho⟩
end Go.Proofs.Ytffpkfgohmhbnaa
