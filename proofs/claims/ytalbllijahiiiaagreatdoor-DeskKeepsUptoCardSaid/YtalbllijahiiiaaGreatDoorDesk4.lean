/- gen.chooser's made, whatever chooses (Chooser: a function value, what it holds, what it touches). -/
import Derived.Test.YtalbllijahiiiaaGreatDoorDesk3
import Derived.Shelf.Abstract
import Derived.Deep.RegionHeld2
import Derived.RegionDies
import Derived.RegionTactic
namespace Go.Proofs.YtalbllijahiiiaaGreatDoor
open Go.RowKit Go.Mine Go.Mine.Desk

/-- What chooses: a function value, its state, the blocks that the state lies in. -/
structure Chooser (σ τ : Type) where
  gf : Nat
  caps : Array Value
  I : σ → World → Prop
  own : σ → Nat → Prop
  abs : σ → τ
  step : τ → Int → Except Int (Int × τ)
  lo : Nat
  room : σ → Nat
  keep : ∀ s w w', I s w → (∀ k, own s k → w'.heap[k]? = w.heap[k]?) → (∀ k, k < lo → w'.heap[k]? = w.heap[k]?) → I s w'
  low : ∀ s w, I s w → lo ≤ w.heap.size
  lt : ∀ s w k, I s w → own s k → k < w.heap.size
  enters : ∀ v w, Sem.run Tryz.prog (callFunc gf (#[v] ++ caps)) w = .ok (.enter gf (#[v] ++ caps)) w
/-- How a call that chooses once ends. -/
def Chooser.Post {σ τ : Type} (C : Chooser σ τ) (s : σ) (m : Int) (f : Int → Value) (w : World) (e : Ending) (w' : World) : Prop :=
  Tch (C.own s) w w' ∧ ((∃ x s', C.step (C.abs s) m = .ok (x, C.abs s') ∧ 0 ≤ x ∧ x ≤ m ∧ e = .returned (f x) ∧ C.I s' w' ∧ C.room s ≤ C.room s' + 1 ∧ ∀ k, C.own s' k → C.own s k ∨ w.heap.size ≤ k) ∨ (∃ c, C.step (C.abs s) m = .error c ∧ e = panics c))
theorem Chooser.Post.ok {σ τ : Type} {C : Chooser σ τ} {s : σ} {m : Int} {f : Int → Value} {w : World} {e : Ending} {w' : World} (h : C.Post s m f w e w') {x : Int} {t' : τ} (hs : C.step (C.abs s) m = .ok (x, t')) : ∃ s', C.abs s' = t' ∧ e = .returned (f x) ∧ (0 ≤ x ∧ x ≤ m ∧ C.room s ≤ C.room s' + 1) ∧ C.I s' w' ∧ (∀ k, C.own s' k → C.own s k ∨ w.heap.size ≤ k) ∧ Tch (C.own s) w w' := by
  obtain ⟨ht, ⟨y, t, h1, h2, h3, h4, h5, h7, h6⟩ | ⟨c, h1, _⟩⟩ := h
  · rw [hs] at h1
    cases h1
    exact ⟨t, rfl, h4, ⟨h2, h3, h7⟩, h5, h6, ht⟩
  · rw [hs] at h1; cases h1
theorem Chooser.Post.err {σ τ : Type} {C : Chooser σ τ} {s : σ} {m : Int} {f : Int → Value} {w : World} {e : Ending} {w' : World} (h : C.Post s m f w e w') {c : Int} (hs : C.step (C.abs s) m = .error c) : e = panics c ∧ Tch (C.own s) w w' := by
  obtain ⟨ht, ⟨y, t, h1, _⟩ | ⟨d, h1, h2⟩⟩ := h
  · rw [hs] at h1; cases h1
  · rw [hs] at h1; cases h1; exact ⟨h2, ht⟩
/-- It does what it says. -/
def Chooser.Does {σ τ : Type} (C : Chooser σ τ) : Prop := ∀ s w m, C.I s w → 0 < C.room s → 0 ≤ m → m ≤ 1000 → Calls Tryz.prog C.gf (#[.int .i64 m] ++ C.caps) w (C.Post s m (fun x => .int .i64 x) w)
theorem Chooser.grow {σ τ : Type} {C : Chooser σ τ} {s : σ} {w w' : World} (h : C.I s w) (hb : Below w.heap.size w w') : C.I s w' := C.keep s w w' h (fun k hk => hb.block k (C.lt s w k h hk)) fun k hk => hb.block k (Nat.lt_of_lt_of_le hk (C.low s w h))

abbrev numV' (z : Int) : Value := .agg #[.bool false, .int .i64 z, .slice none 0 0]
set_option maxHeartbeats 1000000 in
theorem made_int {σ τ : Type} (C : Chooser σ τ) (hC : C.Does) (a b : Int) (ha : near a) (_hb : near b) (hab : a ≤ b ∧ b - a ≤ 1000) (s : σ) (w : World) (hI : C.I s w) (hrm : 0 < C.room s) :
    Calls Tryz.prog 86 #[.func (.func C.gf) #[] C.caps, intG a b] w (C.Post s (b - a) (fun x => numV' (a + x)) w) := by
  obtain ⟨w0, hw0⟩ : ∃ w0, w0 = ((w.alloc (.cells #[.int .i64 2, .int .i64 a, .int .i64 b, .slice none 0 0] 28)).alloc (.cells #[.bool false, .int .i64 0, .slice none 0 0] 53)).alloc (.cells #[.bool true, .int .i64 0, .slice none 0 0] 53) := ⟨_, rfl⟩
  have hb0 : Below w.heap.size w w0 := by rw [hw0]; exact (((Below.refl w.heap.size w).alloc (Nat.le_refl _) _).alloc (by simp) _).alloc (by simp; omega) _
  have k0 : Blk w0 w.heap.size 28 #[.int .i64 2, .int .i64 a, .int .i64 b, .slice none 0 0] := by rw [hw0]; exact ((Blk.new _ _ _).alloc _).alloc _
  have k1 : Blk w0 (w.heap.size + 1) 53 #[.bool false, .int .i64 0, .slice none 0 0] := by rw [hw0]; exact (show Blk ((w.alloc _).alloc (.cells #[.bool false, .int .i64 0, .slice none 0 0] 53)) (w.heap.size + 1) _ _ by have := Blk.new (w.alloc (.cells #[.int .i64 2, .int .i64 a, .int .i64 b, .slice none 0 0] 28)) 53 #[.bool false, .int .i64 0, .slice none 0 0]; simpa using this).alloc _
  have hI0 : C.I s w0 := C.grow hI hb0
  have hr1 : -1073741824 ≤ a ∧ a ≤ 1073741824 := ha
  have hr2 := hr1.1
  have hr3 := hr1.2
  have hr4 : 0 ≤ b - a := by omega
  have hr5 : b - a ≤ 1000 := hab.2
  have hlt : ∀ k, C.own s k → k < w.heap.size := fun k hk => C.lt s w k hI hk
  have hcall := hC s w0.drew (b - a) (C.keep s w0 w0.drew hI0 (fun _ _ => rfl) (fun _ _ => rfl)) hrm hr4 hr5
  have HLOW := Lib.hid (C.low s w hI)
  have HK := Lib.hid (And.intro hb0 (And.intro k0 (And.intro k1 hlt)))
  have c1 : w0.cell? ⟨w.heap.size, 1, none⟩ = some (.int .i64 a) := k0.cell 1
  have c2 : w0.cell? ⟨w.heap.size, 2, none⟩ = some (.int .i64 b) := k0.cell 2
  have HW0 := Lib.hid hw0
  have hent := C.enters
  have hwr : IntKind.i64.wrap (b - a) = b - a := IntWalk.i64_in _ (by omega)
  obtain ⟨B, hB⟩ : ∃ B, w.heap.size = B := ⟨_, rfl⟩
  rw [hB] at c1 c2
  clear hb0 k0 k1 hw0 hI hI0 ha hab hr1 hlt
  cases hst : C.step (C.abs s) (b - a) with
  | error c =>
    have HC := Lib.hid (hcall.mono fun _ _ h => h.err hst)
    have HEND := Lib.hid (show ∀ w9, Tch (C.own s) w0.drew w9 → C.Post s (b - a) (fun x => numV' (a + x)) w (panics c) w9 from fun w9 h => ⟨(Tch.of_below (S := C.own s) HK.out.1).drew.trans h (fun _ h => .inl h), .inr ⟨c, hst, rfl⟩⟩)
    clear hcall hst
    go_enter Tryz.func86, Tryz.ntmps86
    go_wp2_with fail
    rw [← hB, ← HW0.out, hB]
    go_region_dies
    all_goals ((try rw [hwr]); go_at_fn C.gf; refine HC.out.mono ?_; rintro e w9 ⟨rfl, ht9⟩; go_simp; exact body_panics (HEND.out w9 ht9))
  | ok r =>
    obtain ⟨x, t'⟩ := r
    have HC := Lib.hid (hcall.mono fun _ _ h => h.ok hst)
    have HST := Lib.hid hst
    clear hcall hst
    go_enter Tryz.func86, Tryz.ntmps86
    go_wp2_with fail
    rw [← hB, ← HW0.out, hB]
    go_region_held2 (fun w' => w'.cell? ⟨B, 1, none⟩ = some (.int .i64 a) ∧ w'.cell? ⟨B, 2, none⟩ = some (.int .i64 b)) (first | (go_keep; done) | (refine ⟨?_, ?_⟩ <;> assumption))
      (first | ((try rw [hwr]); go_at_fn C.gf; refine HC.out.mono ?_; rintro e w9 ⟨s', hs', rfl, hx9, hI9, ho9, ht9⟩
                have hc9 := HK.out.2.1.drew.touch ht9 (fun h => by have := HK.out.2.2.2 _ h; omega)
                have hd9 := HK.out.2.2.1.drew.touch ht9 (fun h => by have := HK.out.2.2.2 _ h; omega)
                rw [hB] at hc9 hd9
                have e1 : w9.cell? ⟨B, 1, none⟩ = some (.int .i64 a) := hc9.cell 1
                have e2 : w9.cell? ⟨B, 2, none⟩ = some (.int .i64 b) := hc9.cell 2
                have d0 : w9.cell? ⟨B + 1, 0, none⟩ = some (.bool false) := hd9.cell 0
                have d1 : w9.cell? ⟨B + 1, 1, none⟩ = some (.int .i64 0) := hd9.cell 1
                have d2 : w9.cell? ⟨B + 1, 2, none⟩ = some (.slice none 0 0) := hd9.cell 2
                have f0 := hd9.froz 0
                have f1 := hd9.froz 1
                have f2 := hd9.froz 2))
    have hax : IntKind.i64.wrap (a + x) = a + x := IntWalk.i64_in _ (by omega)
    have HD9 := Lib.hid (And.intro hd9 (And.intro hI9 (And.intro ho9 ht9)))
    rw [hax]
    clear hc9 e1 e2 hI9 ho9 ht9 c1 c2
    have hsz0 : w0.heap.size = B + 3 := by rw [HW0.out, ← hB]; simp
    go_wp2_with fail
    refine bodyPost_ret (v := numV' (a + x)) (by simp [results, Tryz.results86, go_sem, d0, d1, d2]) rfl ⟨?_, .inl ⟨x, s', by rw [HST.out, hs'], hx9.1, hx9.2.1, rfl, ?_, hx9.2.2, ?_⟩⟩
    · exact ((((Tch.of_below (S := C.own s) HK.out.1).drew.trans HD9.out.2.2.2 (fun _ h => .inl h)).set (.inr (by simp; omega)) _).set (.inr (by simp; omega)) _).set (.inr (by simp; omega)) _
    · refine C.keep s' w9 _ HD9.out.2.1 (fun k hk => ?_) fun k hk => ?_
      rotate_left
      · have hne : k ≠ B + 1 := by have := HLOW.out; omega
        rw [Below.heap_setCell _ _ _ _ hne, Below.heap_setCell _ _ _ _ hne, Below.heap_setCell _ _ _ _ hne]
      have hne : k ≠ B + 1 := by
        rcases HD9.out.2.2.1 k hk with h | h
        · have := HK.out.2.2.2 k h; omega
        · have : w0.drew.heap.size = w0.heap.size := rfl
          omega
      rw [Below.heap_setCell _ _ _ _ hne, Below.heap_setCell _ _ _ _ hne, Below.heap_setCell _ _ _ _ hne]
    · intro k hk
      rcases HD9.out.2.2.1 k hk with h | h
      · exact .inl h
      · have : w0.drew.heap.size = w0.heap.size := rfl
        exact .inr (by omega)
end Go.Proofs.YtalbllijahiiiaaGreatDoor
