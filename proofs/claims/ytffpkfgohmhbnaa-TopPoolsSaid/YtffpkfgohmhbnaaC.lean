import Derived.Test.YtffpkfgohmhbnaaB
namespace Go.Proofs.Ytffpkfgohmhbnaa
open Go.RowKit Go.Mine

theorem Lk.mem {Ans : Int → Int → Bool → Prop} (P : Int → Prop) (hS : ∀ a b c, Ans a b c → (c = true ↔ ∃ x, a ≤ x ∧ x < b ∧ P x)) : ∀ {f : Nat} {a b : Int} {L : List Int} {k : Nat}, Lk Ans f a b L k → a ≤ b → b - a < f → ∀ x, x ∈ L ↔ (a ≤ x ∧ x < b ∧ P x)
  | 0, a, b, L, k, h, hab, hf => by omega
  | f + 1, a, b, L, k, h, hab, hf => by
    intro x
    rcases h with ⟨rfl, rfl, rfl⟩ | ⟨h1, ha, rfl, rfl⟩ | ⟨h1, ha, rfl, rfl⟩ | ⟨h1, _, L1, L2, k1, k2, h2, h3, rfl, rfl⟩
    · simp; omega
    · have := (hS _ _ _ ha)
      simp at this
      simp
      exact fun h1 h2 => this x h1 h2
    · have := (hS _ _ _ ha).1 rfl
      subst h1
      obtain ⟨y, h1, h2, h3⟩ := this
      obtain rfl : y = a := by omega
      constructor
      · intro h; simp at h; subst h; exact ⟨h1, h2, h3⟩
      · rintro ⟨h4, h5, _⟩; simp; omega
    · have i1 := h2.mem P hS (by omega) (by omega) x
      have i2 := h3.mem P hS (by omega) (by omega) x
      rw [List.mem_append, i1, i2]
      constructor
      · rintro (⟨h1, h2, h3⟩ | ⟨h1, h2, h3⟩)
        · exact ⟨h1, by omega, h3⟩
        · exact ⟨by omega, h2, h3⟩
      · rintro ⟨h1, h2, h3⟩
        by_cases h : x < a + (b - a) / 2
        · exact .inl ⟨h1, h, h3⟩
        · exact .inr ⟨by omega, h2, h3⟩

theorem only_three {L : List Int} {k : Nat} (h : Lk (fun a b c => c = decide (a ≤ 3 ∧ 3 < b)) 6 0 5 L k) : L = [3] := by
  have hm := h.mem (fun x => x = 3) (by intro a b c hc; subst hc; simp) (by omega) (by omega)
  have hs := (h.within (by omega)).2
  match L, hm, hs with
  | [], hm, _ => have := (hm 3).2 (by omega); simp at this
  | [x], hm, _ => have := (hm x).1 (by simp); rw [this.2.2]
  | x :: y :: L, hm, hs =>
    have h1 := (hm x).1 (by simp)
    have h2 := (hm y).1 (by simp)
    have := (List.pairwise_cons.1 hs).1 y (by simp)
    omega

theorem mix_any (z : Int) (w : World) :
    Calls Try.prog 7 #[.int .u64 z] w fun e w' => (∃ z', e = .returned (.int .u64 z')) ∧ w = w' := by
  go_enter Try.func7, Try.ntmps7
  go_wp2
  go_ret
  exact ⟨⟨_, rfl⟩, rfl⟩

theorem three_any (a b : Int) (w : World) :
    Calls Try.prog 8 #[.int .i64 a, .int .i64 b] w fun e w' => e = .returned (.bool (decide (a ≤ 3 ∧ 3 < b))) ∧ w = w' := by
  by_cases h : a ≤ 3
  · have h2 : decide (a ≤ 3 ∧ 3 < b) = decide (3 < b) := by simp [h]
    rw [h2]
    clear h2
    go_enter Try.func8, Try.ntmps8
    go_wp2
    go_ret
    exact ⟨rfl, rfl⟩
  · have h2 : decide (a ≤ 3 ∧ 3 < b) = false := by simp [h]
    rw [h2]
    clear h2
    go_enter Try.func8, Try.ntmps8
    go_wp2
    go_ret
    exact ⟨rfl, rfl⟩
theorem run8 (a b : Int) (w : World) : Sem.run Try.prog (callFunc 8 (#[.int .i64 a, .int .i64 b] ++ #[])) w = .ok (.enter 8 (#[.int .i64 a, .int .i64 b] ++ #[])) w := by kernel_rfl

/-- The example: just 3. -/
theorem fact_any (W : World) : Calls Try.prog 5 #[.int .i64 5, .func (.func 8) #[] #[]] W fun e w' => ∃ g cap, e = .returned (.tuple #[.slice (some ⟨g, 0, none⟩) 1 cap, .nilIface]) ∧ w'.cell? ⟨g, 0, none⟩ = some (.int .i64 3) ∧ Below W.heap.size W w' := by
  refine (find_any 8 #[] 5 (by omega) (fun _ w => Below W.heap.size W w) (fun a b c => c = decide (a ≤ 3 ∧ 3 < b)) W (Below.refl _ _) (fun _ _ _ h h' => h.trans h') run8 ?_).mono ?_
  · intro a b k w _ _ _ _ hb
    refine (three_any a b w).mono ?_
    rintro e w' ⟨rfl, rfl⟩
    exact ⟨_, rfl, rfl, hb, Low.refl _ _⟩
  · rintro e w' ⟨v, L, k, rfl, hk, hb, ho, _⟩
    obtain rfl := only_three hk
    rcases ho.2 with ⟨_, h⟩ | ⟨g, cap, cur, rfl, _⟩
    · simp at h
    · exact ⟨g, cap, rfl, by have := ho.cellAt 0 (by simp); simpa using this, hb⟩

/-- What PoolAny's closure keeps. -/
def JP (W : World) (n s : Int) (_k : Nat) (w : World) : Prop :=
  w.cell? ⟨W.heap.size + 1 + 1, 0, none⟩ = some (.bool true) ∧ w.frozen? ⟨W.heap.size + 1 + 1, 0, none⟩ = false ∧
  w.cell? ⟨W.heap.size, 0, none⟩ = some (.int .i64 n) ∧ w.cell? ⟨W.heap.size + 1, 0, none⟩ = some (.int .i64 s) ∧ W.heap.size + 3 ≤ w.heap.size ∧ Below W.heap.size W w

theorem JP.below {W : World} {n s : Int} {k : Nat} {w w' : World} (h : JP W n s k w) {B : Nat} (hB : W.heap.size + 3 ≤ B) (hb : Below B w w') : JP W n s k w' := by
  obtain ⟨h1, h2, h3, h4, h5, h6⟩ := h
  exact ⟨(hb.cell (by dsimp; omega)).trans h1, (hb.frozen (by dsimp; omega)).trans h2, (hb.cell (by dsimp; omega)).trans h3, (hb.cell (by dsimp; omega)).trans h4, Nat.le_trans h5 hb.size, h6.trans (hb.mono (by omega))⟩

theorem asked_any (W : World) (n s a b : Int) (k : Nat) (h0 : 0 ≤ a) (hab : a < b) (hn : b ≤ n) (w : World) (hJ : JP W n s k w) :
    Calls Try.prog 6 #[.int .i64 a, .int .i64 b, .pointer (some ⟨W.heap.size + 1 + 1, 0, none⟩), .pointer (some ⟨W.heap.size, 0, none⟩), .pointer (some ⟨W.heap.size + 1, 0, none⟩)] w
      fun e w' => ∃ c, e = .returned (.bool c) ∧ True ∧ JP W n s (k + 1) w' ∧ Low (W.heap.size + 1 + 1 + 1) w w' := by
  obtain ⟨c1, f1, c3, c4, hs, hb⟩ := hJ
  go_enter Try.func6, Try.ntmps6
  go_wp2_with (go_at_call 7; refine (mix_any _ _).mono ?_; rintro e w' ⟨⟨z, rfl⟩, rfl⟩)
  go_ret
  refine ⟨_, rfl, trivial, ?_, (Low.refl _ _).setCell (by dsimp; omega) _⟩
  refine ⟨?_, ?_, ?_, ?_, by simpa using hs, hb.setCell (by dsimp; omega) _⟩ <;> simp [go_sem, *]

theorem run6 (a b : Int) (x y z : Value) (w : World) : Sem.run Try.prog (callFunc 6 (#[.int .i64 a, .int .i64 b] ++ #[x, y, z])) w = .ok (.enter 6 (#[.int .i64 a, .int .i64 b] ++ #[x, y, z])) w := by kernel_rfl

/-- A fact on each element of a list of numbers, told of the next one too. -/
theorem steps_of {L : List Int} {n : Int} (h : (∀ x ∈ L, 0 ≤ x ∧ x < n) ∧ L.Pairwise (· < ·)) (k : Nat) (hk : k < L.length) : 0 ≤ L.getD k 0 ∧ L.getD k 0 < n ∧ (0 < k → L.getD (k - 1) 0 < L.getD k 0) := by
  have e : L.getD k 0 = L[k] := by simp [hk]
  have := h.1 L[k] (List.getElem_mem hk)
  refine ⟨by rw [e]; exact this.1, by rw [e]; exact this.2, fun h0 => ?_⟩
  have e2 : L.getD (k - 1) 0 = L[k - 1] := by simp [show k - 1 < L.length by omega]
  rw [e, e2]
  exact List.pairwise_iff_getElem.1 h.2 (k - 1) k (by omega) hk (by omega)

theorem drewN_succ (w : World) (n m : Nat) : (w.drewN n).drewN m = w.drewN (n + m) := by
  simp [World.drewN, Nat.add_assoc]

end Go.Proofs.Ytffpkfgohmhbnaa
