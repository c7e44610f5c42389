/- gen.chooser's made at a Many of Ints, whatever chooses. gen.Replay: what is made of a tape. -/
import Derived.Test.YtalbllijahiiiaaGreatDoorDkAB
import Derived.Test.YtalbllijahiiiaaGreatDoorPutAt
import Derived.Deep.RegionLaw
import Derived.Deep.AppendLies
import Derived.Deep.Onto
import Derived.Defers
import Derived.Recover
import Derived.Laws.Pointers
section
namespace Go.Proofs.YtalbllijahiiiaaGreatDoor
open Go.RowKit Go.Mine Go.Mine.Desk

def Chooser.many {σ τ : Type} (C : Chooser σ τ) (m : Int) : Nat → τ → Except Int (List Int × τ)
  | 0, s => .ok ([], s)
  | k + 1, s => match C.many m k s with
    | .error c => .error c
    | .ok (xs, t) => match C.step t m with
      | .error c => .error c
      | .ok (x, u) => .ok (xs ++ [x], u)
theorem Chooser.many_err {σ τ : Type} {C : Chooser σ τ} {m : Int} {k : Nat} {s : τ} {c : Int} (h : C.many m k s = .error c) : ∀ j, C.many m (k + j) s = .error c
  | 0 => h
  | j + 1 => by rw [← Nat.add_assoc, Chooser.many, Chooser.many_err h j]
theorem Chooser.many_len {σ τ : Type} {C : Chooser σ τ} {m : Int} {s : τ} : ∀ {k : Nat} {xs : List Int} {t : τ}, C.many m k s = .ok (xs, t) → xs.length = k
  | 0, xs, t, h => by cases h; rfl
  | k + 1, xs, t, h => by
    rw [Chooser.many] at h
    cases h1 : C.many m k s with
    | error c => rw [h1] at h; cases h
    | ok r =>
      obtain ⟨ys, u⟩ := r
      rw [h1] at h
      simp only at h
      cases h2 : C.step u m with
      | error c => rw [h2] at h; cases h
      | ok q =>
        obtain ⟨x, v⟩ := q
        rw [h2] at h
        simp only [Except.ok.injEq, Prod.mk.injEq] at h
        rw [← h.1, List.length_append, Chooser.many_len h1]; rfl
def flatV (zs : List Int) : List Value := zs.flatMap fun z => [.bool false, .int .i64 z, .slice none 0 0]
theorem flatV_len (zs : List Int) : (flatV zs).length = zs.length * 3 := by
  induction zs with
  | nil => rfl
  | cons z zs ih => simp only [flatV, List.flatMap_cons, List.length_append, List.length_cons, List.length_nil] at ih ⊢; omega
theorem flatV_snoc (zs : List Int) (z : Int) : flatV (zs ++ [z]) = flatV zs ++ [.bool false, .int .i64 z, .slice none 0 0] := by simp [flatV]
structure Chooser.Many {σ τ : Type} (C : Chooser σ τ) (s : σ) (n a b : Int) (w : World) (e : Ending) (w' : World) : Prop where
  tch : Tch (C.own s) w w'
  how : (∃ k s1 xs t v, C.step (C.abs s) n = .ok (k, s1) ∧ 0 ≤ k ∧ k ≤ n ∧ C.many (b - a) k.toNat s1 = .ok (xs, C.abs t) ∧ e = .returned (.agg #[.bool true, .int .i64 0, v]) ∧ w'.ownsRow w.heap.size 53 3 v xs.length (flatV (xs.map (a + ·))) ∧ (∀ g, v.ownBlock = some g → ¬ C.own t g) ∧ C.I t w' ∧ ∀ k, C.own t k → C.own s k ∨ w.heap.size ≤ k) ∨
    (∃ c, (C.step (C.abs s) n = .error c ∨ ∃ k s1, C.step (C.abs s) n = .ok (k, s1) ∧ C.many (b - a) k.toNat s1 = .error c) ∧ e = panics c)

structure MInv {σ τ : Type} (C : Chooser σ τ) (s : σ) (n a b : Int) (gb B : Nat) (w : World) (t : σ) (xs : List Int) (v : Value) (wr : World) : Prop where
  inv : C.I t wr
  own : ∀ k, C.own t k → C.own s k ∨ B ≤ k
  off : ∀ q, B ≤ q → q < B + 3 → ¬ C.own t q
  k0 : Blk wr B 28 #[.int .i64 4, .int .i64 n, .int .i64 0, .slice (some ⟨gb, 0, none⟩) 1 1]
  k1 : Blk wr (B + 1) 53 #[.bool false, .int .i64 0, .slice none 0 0]
  k2 : Blk wr (B + 2) 53 #[.bool true, .int .i64 0, v]
  k3 : Blk wr gb 28 #[.int .i64 2, .int .i64 a, .int .i64 b, .slice none 0 0]
  row : wr.ownsRow (B + 3) 53 3 v xs.length (flatV (xs.map (a + ·)))
  far : ∀ g, v.ownBlock = some g → ¬ C.own t g
  tch : Tch (C.own s) w wr
  low : C.lo ≤ B
theorem owns_same {w w' : World} {base : Nat} {e : TypeId} {size : Nat} {v : Value} {n : Nat} {xs : List Value} (h : w.ownsRow base e size v n xs) (hs : ∀ g, v.ownBlock = some g → w'.heap[g]? = w.heap[g]?) : w'.ownsRow base e size v n xs := by
  refine ⟨h.1, ?_⟩
  rcases h.2 with hn | ⟨g, cap, cur, rfl, hb, hgg, rest⟩
  · exact .inl hn
  · exact .inr ⟨g, cap, cur, rfl, hb, (hs g rfl).trans hgg, rest⟩
theorem MInv.gbo {σ τ : Type} {C : Chooser σ τ} {s t : σ} {n a b : Int} {gb B : Nat} {w wr : World} {xs : List Int} {v : Value} (h : MInv C s n a b gb B w t xs v wr) (hgb : gb < B) (hog : ¬ C.own s gb) : ¬ C.own t gb := fun hk => by
  rcases h.own gb hk with h1 | h1
  · exact hog h1
  · omega
theorem MInv.called {σ τ : Type} {C : Chooser σ τ} {s t t' : σ} {n a b : Int} {gb B : Nat} {w wr w9 : World} {xs : List Int} {v : Value} (h : MInv C s n a b gb B w t xs v wr) (hgb : gb < B) (hog : ¬ C.own s gb) (hw : w.heap.size = B)
    (hI : C.I t' w9) (ho : ∀ k, C.own t' k → C.own t k ∨ wr.heap.size ≤ k) (ht : Tch (C.own t) wr.drew w9) : MInv C s n a b gb B w t' xs v w9 := by
  have hsz := h.k2.lt
  have hfar : ∀ g, v.ownBlock = some g → B + 3 ≤ g ∧ g < wr.heap.size := h.row.lt
  refine ⟨hI, fun k hk => ?_, fun q h1 h2 hk => ?_, h.k0.drew.touch ht (h.off _ (by omega) (by omega)), h.k1.drew.touch ht (h.off _ (by omega) (by omega)), h.k2.drew.touch ht (h.off _ (by omega) (by omega)), h.k3.drew.touch ht (h.gbo hgb hog), owns_same h.row fun g hg => ht.block g (hfar g hg).2 (h.far g hg), fun g hg hk => ?_, ?_, h.low⟩
  · rcases ho k hk with h1 | h1
    · exact h.own k h1
    · exact .inr (by omega)
  · rcases ho q hk with h3 | h3
    · exact h.off q h1 h2 h3
    · omega
  · rcases ho g hk with h1 | h1
    · exact h.far g hg h1
    · have := (hfar g hg).2; omega
  · exact h.tch.trans ⟨ht.os, ht.tape, ht.output, ht.size, ht.block⟩ (fun x hx => by rw [hw]; exact h.own x hx)
theorem MInv.push {σ τ : Type} {C : Chooser σ τ} {s t : σ} {n a b : Int} {gb B : Nat} {w w9 w11 : World} {xs : List Int} {v : Value} (h : MInv C s n a b gb B w t xs v w9) (hgb : gb < B) (hw : w.heap.size = B) {x : Int} {cs : Array Value} {g cap : Nat}
    (hg : (w9.alloc (.cells cs 53)).grownBy w11 v.ownBlock) (hat : v.ownBlock = some g ∨ g = w9.heap.size + 1) (hrow : w11.ownsRow (B + 3) 53 3 (.slice (some ⟨g, 0, none⟩) (xs.length + 1) cap) (xs.length + 1) (flatV (xs.map (a + ·)) ++ [.bool false, .int .i64 (a + x), .slice none 0 0])) :
    MInv C s n a b gb B w t (xs ++ [x]) (.slice (some ⟨g, 0, none⟩) (xs.length + 1) cap) (w11.setCell ⟨B + 2, 2, none⟩ (.slice (some ⟨g, 0, none⟩) (xs.length + 1) cap)) := by
  have hsz := h.k2.lt
  have hfar : ∀ g, v.ownBlock = some g → B + 3 ≤ g ∧ g < w9.heap.size := h.row.lt
  have hlt : ∀ k, C.own t k → k < w9.heap.size := fun k hk => C.lt t w9 k h.inv hk
  have hgb9 := h.k3.lt
  have hgB : B + 3 ≤ g := by rcases hat with h1 | h1; exact (hfar g h1).1; omega
  have hgn : ¬ C.own t g := by rcases hat with h1 | h1; exact h.far g h1; intro h2; have := hlt g h2; omega
  have hb : ∀ k, k < w9.heap.size → v.ownBlock ≠ some k → w11.heap[k]? = w9.heap[k]? := fun k hk hn => by
    rw [hg.block k (by simp; omega) (fun e => hn e.symm), Below.heap_alloc w9 _ k hk]
  have hB : ∀ k, k < B + 3 → v.ownBlock ≠ some k := fun k hk e => by have := (hfar k e).1; omega
  refine ⟨C.keep t w9 _ h.inv (fun k hk => ?_) (fun k hk => ?_), h.own, h.off, (h.k0.same (hb _ (by omega) (hB _ (by omega)))).other _ _ (by omega) _, (h.k1.same (hb _ (by omega) (hB _ (by omega)))).other _ _ (by omega) _, ?_, (h.k3.same (hb _ (by omega) (hB _ (by omega)))).other _ _ (by omega) _, ?_, ?_, ?_, h.low⟩
  · have hne : k ≠ B + 2 := fun e => h.off k (by omega) (by omega) hk
    rw [Below.heap_setCell _ _ _ _ hne]
    exact hb k (hlt k hk) (fun e => h.far k e hk)
  · have := h.low
    rw [Below.heap_setCell _ _ _ _ (show k ≠ B + 2 by omega)]
    exact hb k (by omega) (hB k (by omega))
  · exact (h.k2.same (hb _ (by omega) (hB _ (by omega)))).set 2 _
  · rw [List.length_append, List.map_append, List.map_cons, List.map_nil, flatV_snoc]
    exact owns_same hrow fun g' hg' => by
      cases hg'
      exact Below.heap_setCell _ _ _ _ (by show g ≠ B + 2; omega)
  · rintro g' hg'
    cases hg'
    exact hgn
  · refine ((h.tch.alloc (.cells cs 53)).grown hg fun k hk => .inr ?_).set (.inr (by simp; omega)) _
    have := (hfar k hk).1
    omega

theorem one3 (x : Int) : ∀ u ∈ ([.bool false, .int .i64 x, .slice none 0 0] : List Value), u.oneCell' = true := by simp [Value.oneCell']
theorem infoVal : (Tryz.prog.info? 53).map (fun i => (i.zero, i.size, i.bytes)) = some (some (numV' 0), 3, 40) := by kernel_rfl
set_option maxRecDepth 100000 in
set_option maxHeartbeats 2000000 in
theorem made_many {σ τ : Type} (C : Chooser σ τ) (hC : C.Does) (n a b : Int) (gb : Nat) (hr : (G.many n a b).right) (s : σ) (w : World) (hI : C.I s w) (hrm : 6 ≤ C.room s) (hgb : SubAt w gb a b) (hog : ¬ C.own s gb) :
    Calls Tryz.prog 86 #[.func (.func C.gf) #[] C.caps, manyG n gb] w (C.Many s n a b w) := by
  obtain ⟨hn0, hn5, ha, hb, hab, hba⟩ := hr
  obtain ⟨w0, hw0⟩ : ∃ w0, w0 = ((w.alloc (.cells #[.int .i64 4, .int .i64 n, .int .i64 0, .slice (some ⟨gb, 0, none⟩) 1 1] 28)).alloc (.cells #[.bool false, .int .i64 0, .slice none 0 0] 53)).alloc (.cells #[.bool true, .int .i64 0, .slice none 0 0] 53) := ⟨_, rfl⟩
  have hb0 : Below w.heap.size w w0 := by rw [hw0]; exact (((Below.refl w.heap.size w).alloc (Nat.le_refl _) _).alloc (by simp) _).alloc (by simp; omega) _
  have k0 : Blk w0 w.heap.size 28 #[.int .i64 4, .int .i64 n, .int .i64 0, .slice (some ⟨gb, 0, none⟩) 1 1] := by rw [hw0]; exact ((Blk.new _ _ _).alloc _).alloc _
  have k1 : Blk w0 (w.heap.size + 1) 53 #[.bool false, .int .i64 0, .slice none 0 0] := by rw [hw0]; exact (show Blk ((w.alloc _).alloc (.cells #[.bool false, .int .i64 0, .slice none 0 0] 53)) (w.heap.size + 1) _ _ by have := Blk.new (w.alloc (.cells #[.int .i64 4, .int .i64 n, .int .i64 0, .slice (some ⟨gb, 0, none⟩) 1 1] 28)) 53 #[.bool false, .int .i64 0, .slice none 0 0]; simpa using this).alloc _
  have k2 : Blk w0 (w.heap.size + 2) 53 #[.bool true, .int .i64 0, .slice none 0 0] := by rw [hw0]; have := Blk.new ((w.alloc (.cells #[.int .i64 4, .int .i64 n, .int .i64 0, .slice (some ⟨gb, 0, none⟩) 1 1] 28)).alloc (.cells #[.bool false, .int .i64 0, .slice none 0 0] 53)) 53 #[.bool true, .int .i64 0, .slice none 0 0]; simpa using this
  have k3 : Blk w0 gb 28 #[.int .i64 2, .int .i64 a, .int .i64 b, .slice none 0 0] := (show Blk w gb _ _ from hgb).below hb0
  have hI0 : C.I s w0 := C.grow hI hb0
  have hlt : ∀ k, C.own s k → k < w.heap.size := fun k hk => C.lt s w k hI hk
  have hgl : gb < w.heap.size := hgb.lt
  have hcall := hC s w0 n hI0 (by omega) hn0 (by omega)
  have hsz0 : w0.heap.size = w.heap.size + 3 := by rw [hw0]; simp
  have HLOW := Lib.hid (C.low s w hI)
  have HK := Lib.hid (And.intro hb0 (And.intro k0 (And.intro k1 (And.intro k2 (And.intro k3 hlt)))))
  have c1 : w0.cell? ⟨w.heap.size, 1, none⟩ = some (.int .i64 n) := k0.cell 1
  have HW0 := Lib.hid hw0
  have hent := C.enters
  obtain ⟨B, hB⟩ : ∃ B, w.heap.size = B := ⟨_, rfl⟩
  rw [hB] at c1 hgl hsz0
  have HH := Lib.hid (And.intro ha (And.intro hb (And.intro hab (And.intro hba hog))))
  clear hb0 k0 k1 k2 k3 hw0 hI hI0 ha hb hab hba hlt hgb hog
  cases hst : C.step (C.abs s) n with
  | error c =>
    have HC := Lib.hid (hcall.mono fun _ _ h => h.err hst)
    have HST := Lib.hid hst
    clear hcall hst
    rw [HW0.out] at HC c1
    go_enter Tryz.func86, Tryz.ntmps86
    go_wp2_with fail
    refine HC.out.mono ?_
    rintro e w9 ⟨rfl, ht9⟩
    rw [← HW0.out] at ht9
    go_wp2_with fail
    exact body_panics ⟨(Tch.of_below (S := C.own s) HK.out.1).trans ht9 (fun _ h => .inl h), .inr ⟨c, .inl HST.out, rfl⟩⟩
  | ok r =>
    obtain ⟨kk, u1⟩ := r
    have HC := Lib.hid (hcall.mono fun _ _ h => h.ok hst)
    have HST := Lib.hid hst
    clear hcall hst
    rw [HW0.out] at HC c1
    go_enter Tryz.func86, Tryz.ntmps86
    go_wp2_with fail
    refine HC.out.mono ?_
    clear HC
    rintro e w1 ⟨s1, hs1, rfl, hk, hI1, ho1, ht1⟩
    subst hs1
    rw [← HW0.out] at ht1 ho1
    obtain ⟨k, rfl⟩ : ∃ k : Nat, kk = k := ⟨kk.toNat, by omega⟩
    have hk5 : k ≤ 5 := by omega
    have hout : ∀ q, B ≤ q → q < B + 3 → ¬ C.own s1 q := fun q h1 h2 h => by
      rcases ho1 q h with h3 | h3
      · have := HK.out.2.2.2.2.2 q h3; omega
      · omega
    have hoS : ∀ q, B ≤ q → ¬ C.own s q := fun q h1 h => by have := HK.out.2.2.2.2.2 q h; omega
    have k0 := HK.out.2.1.touch ht1 (by rw [hB]; exact hoS _ (by omega))
    have k1 := HK.out.2.2.1.touch ht1 (by rw [hB]; exact hoS _ (by omega))
    have k2 := HK.out.2.2.2.1.touch ht1 (by rw [hB]; exact hoS _ (by omega))
    have k3 := HK.out.2.2.2.2.1.touch ht1 HH.out.2.2.2.2
    rw [hB] at k0 k1 k2
    have HK1 := Lib.hid (And.intro k0 (And.intro k1 (And.intro k2 k3)))
    have hT1 : Tch (C.own s) w w1 := (Tch.of_below (S := C.own s) HK.out.1).trans ht1 (fun _ h => .inl h)
    have HINV0 := Lib.hid (And.intro hI1 (And.intro ho1 hT1))
    have hsz1 := ht1.size
    have HI0 := Lib.hid (show ∃ v, MInv C s n a b gb B w s1 [] v w1 from ⟨.slice none 0 0, hI1, fun q hq => by rw [← hB]; exact (ho1 q hq).imp_right (fun h => by omega), hout, k0, k1, k2, k3, World.ownsRow_nil _ _ _ _, fun g hg => by simp [Value.ownBlock] at hg, hT1, by rw [← hB]; exact HLOW.out⟩)
    clear hI1 ho1 hT1 k0 k1 k2 k3 HK1 HINV0
    have hc0 : a ≤ b ∧ b - a ≤ 1000 := HH.out.2.2.1 |> fun h => ⟨h, HH.out.2.2.2.1⟩
    have hogb := HH.out.2.2.2.2
    have hgb' : gb < B := hgl
    obtain ⟨i0, hi0, hz0, hz1, hz2⟩ := info_parts infoVal
    go_wp2_with fail
    go_loopw [53] (fun iv wr => ∃ (i : Nat) (xs : List Int) (t : σ) (v : Value), iv = .int .i64 (i : Int) ∧ i ≤ k ∧ C.many (b - a) i (C.abs s1) = .ok (xs, C.abs t) ∧ 5 ≤ C.room t + i ∧ RowKit.Hid (MInv C s n a b gb B w t xs v wr)) (fun iv _ => k - (intOf iv).toNat)
    case atStart =>
      obtain ⟨v, hv⟩ := HI0.out
      exact ⟨0, [], s1, v, rfl, by omega, rfl, by have := hk.2.2; omega, Lib.hid hv⟩
    case round =>
      obtain ⟨i, xs, t, v, rfl, hi, hm, hrt, HM⟩ := hrel
      have hxl := Chooser.many_len hm
      subst hxl
      have HMN := Lib.hid hm
      clear hm
      rcases Nat.lt_or_ge xs.length k with hik | hik
      · have hcell := HM.out.k2.cell 2
        have hs3 := HM.out.k0.cell 3
        have g0 := HM.out.k3.cell 0
        have g1 := HM.out.k3.cell 1
        have g2 := HM.out.k3.cell 2
        have g3 := HM.out.k3.cell 3
        have hsz := HM.out.k2.lt
        have hcall := made_int C hC a b HH.out.1 HH.out.2.1 hc0 t wr.drew (C.keep t wr wr.drew HM.out.inv (fun _ _ => rfl) (fun _ _ => rfl)) (by omega)
        cases hst : C.step (C.abs t) (b - a) with
        | error c =>
          have HC := Lib.hid (hcall.mono fun _ _ h => h.err hst)
          have HST2 := Lib.hid hst
          clear hcall hst
          go_wp2_with fail
          go_region_dies
          all_goals
            go_at_call 86
            refine HC.out.mono ?_
            rintro e w9 ⟨rfl, ht9⟩
            go_simp
            have hme : C.many (b - a) (xs.length + 1) (C.abs s1) = .error c := by rw [Chooser.many, HMN.out]; simp only [HST2.out]
            have hmk := Chooser.many_err hme (k - (xs.length + 1))
            rw [show xs.length + 1 + (k - (xs.length + 1)) = k by omega] at hmk
            exact (body_panics ⟨HM.out.tch.trans ⟨ht9.os, ht9.tape, ht9.output, ht9.size, ht9.block⟩ (fun q hq => by rw [hB]; exact HM.out.own q hq), .inr ⟨c, .inr ⟨k, C.abs s1, HST.out, by simpa using hmk⟩, rfl⟩⟩ : bodyPost Tryz.prog Tryz.f86 (C.Many s n a b w) _ _ _)
        | ok r =>
          obtain ⟨x, u'⟩ := r
          have HC := Lib.hid (hcall.mono fun _ _ h => h.ok hst)
          have HST2 := Lib.hid hst
          clear hcall hst
          have hown : ∀ w9 t', MInv C s n a b gb B w t' xs v w9 → w9.cell? ⟨B + 2, 2, none⟩ = some v := fun w9 t' h => h.k2.cell 2
          go_wp2_with fail
          go_region_law (first
            | (go_simp; go_at_call 86
               refine HC.out.mono ?_
               rintro e w9 ⟨t', ht', rfl, hx9, hI9, ho9, ht9⟩
               have HM9 := Lib.hid (HM.out.called hgb' hogb hB hI9 ho9 ht9)
               have hv9 := hown _ _ HM9.out
               have hv9' : (w9.alloc (.cells #[.bool false, .int .i64 (a + x), .slice none 0 0] 53)).cell? ⟨B + 2, 2, none⟩ = some v := (HM9.out.k2.alloc _).cell 2
               clear hI9 ho9 ht9)
            | (refine step_append_lies _ rfl _ _ _ rfl (B + 3) 53 i0 _ 3 40 Tryz.underlying51 hi0 hz0 hz1 hz2 rfl (by omega) v xs.length _ rfl (World.ownsRow.alloc HM9.out.row _) ⟨_, 0, none⟩ 1 1 [.bool false, .int .i64 (a + x), .slice none 0 0] rfl rfl (World.news_of_block (cs := #[.bool false, .int .i64 (a + x), .slice none 0 0]) (t := 53) (fr := (0, 0)) (heap_alloc_at _ _ rfl)) (one3 _) (by omega) (by unfold maxLen; omega) (by omega) (by have := HM9.out.k2.lt; simp; omega) (w9.heap.size + 1) (by simp) ?_
               intro gg cap w11 hown11 hgrow hat hlt11
               have hk11 : Blk w11 (B + 2) 53 #[.bool true, .int .i64 0, v] := (HM9.out.k2.alloc _).same (hgrow.block _ (by have := HM9.out.k2.lt; simp; omega) (fun e => by have := (HM9.out.row.lt _ e.symm).1; omega))
               have e11 : w11.cell? ⟨B + 2, 2, none⟩ = some v := hk11.cell 2
               have f11 : w11.frozen? ⟨B + 2, 2, none⟩ = false := hk11.froz 2))
          all_goals
            have HM12 := Lib.hid (HM9.out.push hgb' hB (x := x) hgrow hat hown11)
            clear hgrow hat hown11 hlt11 hk11 e11 f11 hv9 hv9' HM9
            go_wp2_with fail
            go_roundw
            case rel => exact ⟨xs.length + 1, xs ++ [x], t', _, by go_num, by omega, by rw [Chooser.many, HMN.out, ht']; simp only [HST2.out], by have := hx9.2.2; omega, HM12⟩
            case measure => simp [intOf]; omega
      · obtain rfl : k = xs.length := by omega
        have e0 : wr.cell? ⟨B + 2, 0, none⟩ = some (.bool true) := HM.out.k2.cell 0
        have e1 : wr.cell? ⟨B + 2, 1, none⟩ = some (.int .i64 0) := HM.out.k2.cell 1
        have e2 : wr.cell? ⟨B + 2, 2, none⟩ = some v := HM.out.k2.cell 2
        have d0 : wr.cell? ⟨B + 1, 0, none⟩ = some (.bool false) := HM.out.k1.cell 0
        have d1 : wr.cell? ⟨B + 1, 1, none⟩ = some (.int .i64 0) := HM.out.k1.cell 1
        have d2 : wr.cell? ⟨B + 1, 2, none⟩ = some (.slice none 0 0) := HM.out.k1.cell 2
        have f0 := HM.out.k1.froz 0
        have f1 := HM.out.k1.froz 1
        have f2 := HM.out.k1.froz 2
        obtain ⟨ao, nn, cp, rfl⟩ : ∃ ao nn cp, v = .slice ao nn cp := by
          rcases HM.out.row.2 with ⟨rfl, _⟩ | ⟨g, cap, cur, rfl, _⟩
          · exact ⟨_, _, _, rfl⟩
          · exact ⟨_, _, _, rfl⟩
        go_wp2_with fail
        have hnB : ∀ q, q ≠ B + 1 → ∀ u0 u1 u2 : Value, (((wr.setCell ⟨B + 1, 0, none⟩ u0).setCell ⟨B + 1, 1, none⟩ u1).setCell ⟨B + 1, 2, none⟩ u2).heap[q]? = wr.heap[q]? := fun q hq u0 u1 u2 => by
          rw [Below.heap_setCell _ _ _ _ hq, Below.heap_setCell _ _ _ _ hq, Below.heap_setCell _ _ _ _ hq]
        refine bodyPost_ret (v := .agg #[.bool true, .int .i64 0, .slice ao nn cp]) (by simp [results, Tryz.results86, go_sem, d0, d1, d2]) rfl ⟨?_, .inl ⟨(xs.length : Int), C.abs s1, xs, t, .slice ao nn cp, HST.out, hk.1, hk.2.1, by simpa using HMN.out, rfl, ?_, HM.out.far, ?_, ?_⟩⟩
        · exact ((HM.out.tch.set (.inr (by simp; omega)) _).set (.inr (by simp; omega)) _).set (.inr (by simp; omega)) _
        · rw [hB]
          exact owns_same (HM.out.row.mono (by omega)) fun g hg => hnB g (fun e => by have := (HM.out.row.lt g hg).1; omega) _ _ _
        · exact C.keep t wr _ HM.out.inv (fun q hq => hnB q (fun e => HM.out.off q (by omega) (by omega) hq) _ _ _) fun q hq => hnB q (by have := HM.out.low; omega) _ _ _
        · rw [hB]; exact HM.out.own
end Go.Proofs.YtalbllijahiiiaaGreatDoor
end

section
namespace Go.Proofs.YtalbllijahiiiaaGreatDoor
open Go.RowKit Go.Mine Go.Mine.Desk

def ValAt (w : World) (B : Nat) (v : Value) : V → Prop
  | .num z => v = numV' z
  | .list zs => ∃ u, v = .agg #[.bool true, .int .i64 0, u] ∧ w.ownsRow B 53 3 u zs.length (flatV zs)
def valBlock : Value → Option Nat
  | .agg cs => (cs.getD 2 (.bool false)).ownBlock
  | _ => none
theorem ValAt.same {w w' : World} {B : Nat} {v : Value} {x : V} (h : ValAt w B v x) (hs : ∀ g, valBlock v = some g → B ≤ g → g < w.heap.size → w'.heap[g]? = w.heap[g]?) : ValAt w' B v x := by
  cases x with
  | num z => exact h
  | list zs =>
    obtain ⟨u, rfl, hu⟩ := h
    exact ⟨u, rfl, owns_same hu fun g hg => hs g hg (hu.lt g hg).1 (hu.lt g hg).2⟩
theorem ValAt.below {w w' : World} {B : Nat} {v : Value} {x : V} (h : ValAt w B v x) (hb : Below w.heap.size w w') : ValAt w' B v x := h.same fun _ _ _ hg => hb.block _ hg
theorem ValAt.lt {w : World} {B : Nat} {v : Value} {x : V} (h : ValAt w B v x) : ∀ g, valBlock v = some g → B ≤ g ∧ g < w.heap.size := by
  cases x with
  | num z => intro g hg; rw [show v = numV' z from h] at hg; simp [valBlock, Value.ownBlock] at hg
  | list zs =>
    obtain ⟨u, rfl, hu⟩ := h
    exact fun g hg => hu.lt g hg
theorem ValAt.mono {w : World} {B B' : Nat} {v : Value} {x : V} (h : ValAt w B v x) (hB : B' ≤ B) : ValAt w B' v x := by
  cases x with
  | num z => exact h
  | list zs =>
    obtain ⟨u, rfl, hu⟩ := h
    exact ⟨u, rfl, hu.mono hB⟩
theorem ValAt.shape {w : World} {B : Nat} {v : Value} {x : V} (h : ValAt w B v x) : ∃ k z ao n c, v = .agg #[.bool k, .int .i64 z, .slice ao n c] := by
  cases x with
  | num z => exact ⟨_, _, _, _, _, h⟩
  | list zs =>
    obtain ⟨u, rfl, hu⟩ := h
    rcases hu.2 with ⟨rfl, _⟩ | ⟨g, cap, cur, rfl, _⟩
    · exact ⟨_, _, _, _, _, rfl⟩
    · exact ⟨_, _, _, _, _, rfl⟩
def Chooser.play {σ τ : Type} (C : Chooser σ τ) : G → τ → Except Int (V × τ)
  | .int a b, s => match C.step s (b - a) with
    | .error c => .error c
    | .ok (x, t) => .ok (.num (a + x), t)
  | .many n a b, s => match C.step s n with
    | .error c => .error c
    | .ok (k, s1) => match C.many (b - a) k.toNat s1 with
      | .error c => .error c
      | .ok (xs, t) => .ok (.list (xs.map (a + ·)), t)
structure Chooser.Made {σ τ : Type} (C : Chooser σ τ) (s : σ) (g : G) (w : World) (e : Ending) (w' : World) : Prop where
  tch : Tch (C.own s) w w'
  how : (∃ x t v, C.play g (C.abs s) = .ok (x, C.abs t) ∧ e = .returned v ∧ ValAt w' w.heap.size v x ∧ (∀ b, valBlock v = some b → ¬ C.own t b) ∧ C.I t w' ∧ ∀ k, C.own t k → C.own s k ∨ w.heap.size ≤ k) ∨ (∃ c, C.play g (C.abs s) = .error c ∧ e = panics c)
theorem made_any {σ τ : Type} (C : Chooser σ τ) (hC : C.Does) (g : G) (v : Value) (hr : g.right) (s : σ) (w : World) (hI : C.I s w) (hrm : 6 ≤ C.room s) (hv : GenAt w v g) (hgl : ∀ n gb, v = manyG n gb → ¬ C.own s gb) :
    Calls Tryz.prog 86 #[.func (.func C.gf) #[] C.caps, v] w (C.Made s g w) := by
  cases g with
  | int a b =>
    obtain rfl : v = intG a b := hv
    obtain ⟨ha, hb, hab, hba⟩ := hr
    refine (made_int C hC a b ha hb ⟨hab, hba⟩ s w hI (by omega)).mono ?_
    rintro e w' ⟨ht, h⟩
    refine ⟨ht, ?_⟩
    rcases h with ⟨x, t, h1, h2, h3, rfl, h5, _, h6⟩ | ⟨c, h1, h2⟩
    · exact .inl ⟨.num (a + x), t, _, by rw [Chooser.play, h1], rfl, rfl, by simp [valBlock, Value.ownBlock], h5, h6⟩
    · exact .inr ⟨c, by rw [Chooser.play, h1], h2⟩
  | many n a b =>
    obtain ⟨gb, rfl, hs⟩ := hv
    refine (made_many C hC n a b gb hr s w hI hrm hs (hgl n gb rfl)).mono ?_
    rintro e w' ⟨ht, h⟩
    refine ⟨ht, ?_⟩
    rcases h with ⟨k, s1, xs, t, v, h1, h2, h3, h4, rfl, h6, h7, h8, h9⟩ | ⟨c, h1, h2⟩
    · exact .inl ⟨.list (xs.map (a + ·)), t, _, by rw [Chooser.play, h1]; simp only [h4], rfl, ⟨v, rfl, by simpa using h6⟩, h7, h8, h9⟩
    · refine .inr ⟨c, ?_, h2⟩
      rcases h1 with h1 | ⟨k, s1, h1, h3⟩
      · rw [Chooser.play, h1]
      · rw [Chooser.play, h1]; simp only [h3]

/-! The choices that a tape tells. -/
def tapeStep (ts : List Int) (s : Nat) (m : Int) : Except Int (Int × Nat) := match ts.drop s with
  | [] => .error 5
  | x :: _ => if x < 0 ∨ m < x then .error 1 else .ok (x, s + 1)
theorem rep_enters (lb : Array Value) (v : Value) (w : World) : Sem.run Tryz.prog (callFunc 85 (#[v] ++ lb)) w = .ok (.enter 85 (#[v] ++ lb)) w := by kernel_rfl
def repC (ts : List Int) (ao : Option Addr) (n c pb tb : Nat) (W : World) (hp : W.heap.size ≤ pb) : Chooser Nat Nat where
  gf := 85
  caps := #[.pointer (some ⟨pb, 0, none⟩), .pointer (some ⟨tb, 0, none⟩)]
  I s w := Blk w pb 3 #[.int .i64 s] ∧ Blk w tb 48 #[.slice ao n c] ∧ (∀ k, k < W.heap.size → w.heap[k]? = W.heap[k]?) ∧ s ≤ ts.length
  own _ k := k = pb ∨ k = tb
  abs s := s
  step := tapeStep ts
  lo := W.heap.size
  room _ := 6
  keep s w w' h h1 h2 := ⟨h.1.same (h1 pb (.inl rfl)), h.2.1.same (h1 tb (.inr rfl)), fun k hk => (h2 k hk).trans (h.2.2.1 k hk), h.2.2.2⟩
  low s w h := by have := h.1.lt; omega
  lt s w k h hk := by
    rcases hk with rfl | rfl
    · exact h.1.lt
    · exact h.2.1.lt
  enters := rep_enters _
set_option maxHeartbeats 1000000 in
theorem rep_does (ts : List Int) (ao : Option Addr) (n c pb tb : Nat) (W : World) (hp : W.heap.size ≤ pb) (hpt : pb ≠ tb) (hn : ts.length = n) (hl : n ≤ maxLen) (hat : IntsAt .i64 W ao ts) : (repC ts ao n c pb tb W hp).Does := by
  rintro s w m ⟨k0, k1, hsame, hs⟩ _ hm0 hm1
  show Calls Tryz.prog 85 #[.int .i64 m, .pointer (some ⟨pb, 0, none⟩), .pointer (some ⟨tb, 0, none⟩)] w _
  have hl' : n ≤ 9223372036854775807 := by unfold maxLen at hl; omega
  have c0 : w.cell? ⟨pb, 0, none⟩ = some (.int .i64 (s : Int)) := k0.cell 0
  have c1 : w.cell? ⟨tb, 0, none⟩ = some (.slice ao n c) := k1.cell 0
  have f0 : w.frozen? ⟨pb, 0, none⟩ = false := k0.froz 0
  have HT := Lib.hid (Tch.refl ((repC ts ao n c pb tb W hp).own s) w)
  rcases Nat.lt_or_ge s n with hsn | hsn
  · obtain ⟨b, o, rfl, hx⟩ := hat s (by omega)
    have hxw : w.cell? ⟨b, o + s, none⟩ = some (.int .i64 (ts.getD s 0)) := by
      have hb := World.block_lt_of_cell? W _ hx
      rw [← hx]; exact World.cell?_of_block (hsame b hb)
    have hdrop : ts.drop s = ts.getD s 0 :: ts.drop (s + 1) := by
      rw [List.drop_eq_getElem_cons (by omega)]; simp [show s < ts.length by omega]
    obtain ⟨x, hxe⟩ : ∃ x, ts.getD s 0 = x := ⟨_, rfl⟩
    rw [hxe] at hxw hdrop
    have hi0 : (0 : Int) ≤ (s : Int) := by omega
    have hi1 : (s : Int) < (n : Int) := by omega
    have hne : ((s : Int) == (n : Int)) = false := by rw [beq_eq_false_iff_ne]; omega
    have hne' : ¬ ((s : Int) = (n : Int)) := by omega
    have hstep : tapeStep ts s m = if x < 0 ∨ m < x then .error 1 else .ok (x, s + 1) := by rw [tapeStep, hdrop]
    by_cases hbad : x < 0 ∨ m < x
    · have HS := Lib.hid (show tapeStep ts s m = .error 1 by rw [hstep, if_pos hbad])
      clear hstep
      rcases Int.lt_or_le x 0 with hx0 | hx0
      · go_enter Tryz.func85, Tryz.ntmps85
        go_wp2_with fail
        exact body_panics ⟨HT.out, .inr ⟨1, HS.out, rfl⟩⟩
      · have hx1 : m < x := by omega
        have hx2 : ¬ x < 0 := by omega
        go_enter Tryz.func85, Tryz.ntmps85
        go_wp2_with fail
        exact body_panics ⟨HT.out, .inr ⟨1, HS.out, rfl⟩⟩
    · have HS := Lib.hid (show tapeStep ts s m = .ok (x, s + 1) by rw [hstep, if_neg hbad])
      have hx0 : ¬ x < 0 := by omega
      have hx1 : ¬ m < x := by omega
      have hw1 : IntKind.i64.wrap ((s : Int) + 1) = ((s + 1 : Nat) : Int) := by rw [IntWalk.i64_in _ (by omega)]; omega
      have HK := Lib.hid (And.intro k0 (And.intro k1 hsame))
      clear hstep k0 k1 hsame hat
      go_enter Tryz.func85, Tryz.ntmps85
      go_wp2_with fail
      go_ret
      refine ⟨HT.out.set (.inl (.inl rfl)) _, .inl ⟨x, s + 1, HS.out, by omega, by omega, rfl, ⟨?_, ?_, ?_, by omega⟩, Nat.le_succ _, fun k hk => .inl hk⟩⟩
      · exact HK.out.1.set 0 _
      · exact HK.out.2.1.other _ _ (fun e => hpt e.symm) _
      · intro k hk
        rw [Below.heap_setCell _ _ _ _ (by show k ≠ pb; omega)]
        exact HK.out.2.2 k hk
  · obtain rfl : s = n := by omega
    have HS := Lib.hid (show tapeStep ts s m = .error 5 by rw [tapeStep, List.drop_eq_nil_of_le (by omega)])
    go_enter Tryz.func85, Tryz.ntmps85
    go_wp2_with fail
    exact body_panics ⟨HT.out, .inr ⟨5, HS.out, rfl⟩⟩

/-! What the tape makes, plainly. -/
theorem playN_snoc (a m : Int) : ∀ (k : Nat) (r : List Int), playN a m (k + 1) r = match playN a m k r with
    | .error e => .error e
    | .ok (_, []) => .error 5
    | .ok (zs, x :: r') => if x < 0 ∨ m < x then .error 1 else .ok (zs ++ [a + x], r')
  | 0, [] => rfl
  | 0, x :: r => by
    rw [playN]
    simp only [playN]
    by_cases h : x < 0 ∨ m < x
    · rw [if_pos h, if_pos h]
    · rw [if_neg h, if_neg h]; rfl
  | k + 1, [] => rfl
  | k + 1, x :: r => by
    rw [playN, playN_snoc a m k r, playN]
    by_cases h : x < 0 ∨ m < x
    · rw [if_pos h, if_pos h]
    · rw [if_neg h, if_neg h]
      cases playN a m k r with
      | error e => rfl
      | ok q =>
        obtain ⟨zs, r'⟩ := q
        cases r' with
        | nil => rfl
        | cons y r' =>
          simp only
          by_cases h2 : y < 0 ∨ m < y
          · rw [if_pos h2, if_pos h2]
          · rw [if_neg h2, if_neg h2]; rfl
theorem rep_many (ts : List Int) (ao : Option Addr) (n c pb tb : Nat) (W : World) (hp : W.heap.size ≤ pb) (a m : Int) : ∀ (k s : Nat), playN a m k (ts.drop s) = match (repC ts ao n c pb tb W hp).many m k s with
    | .error e => .error e
    | .ok (xs, t) => .ok (xs.map (a + ·), ts.drop t)
  | 0, s => rfl
  | k + 1, s => by
    rw [playN_snoc, rep_many ts ao n c pb tb W hp a m k s, Chooser.many]
    cases (repC ts ao n c pb tb W hp).many m k s with
    | error e => rfl
    | ok q =>
      obtain ⟨xs, t⟩ := q
      simp only
      rw [show (repC ts ao n c pb tb W hp).step = tapeStep ts from rfl, tapeStep]
      cases hd : ts.drop t with
      | nil => rfl
      | cons x r =>
        simp only
        by_cases h : x < 0 ∨ m < x
        · rw [if_pos h, if_pos h]
        · rw [if_neg h, if_neg h]
          simp only [List.map_append, List.map_cons, List.map_nil]
          rw [show ts.drop (t + 1) = r by rw [← List.tail_drop, hd]; rfl]
theorem rep_play (ts : List Int) (ao : Option Addr) (n c pb tb : Nat) (W : World) (hp : W.heap.size ≤ pb) (g : G) : replay g ts = match (repC ts ao n c pb tb W hp).play g 0 with
    | .error e => .error e
    | .ok (v, t) => if ts.length ≤ t then .ok v else .error 3 := by
  cases g with
  | int a b =>
    rw [replay, Chooser.play, show (repC ts ao n c pb tb W hp).step = tapeStep ts from rfl, tapeStep, List.drop_zero]
    cases ts with
    | nil => rfl
    | cons x r =>
      simp only [playN]
      by_cases h : x < 0 ∨ b - a < x
      · rw [if_pos h, if_pos h]
      · rw [if_neg h, if_neg h]
        cases r with
        | nil => rfl
        | cons y r => simp
  | many k a b =>
    rw [Chooser.play, show (repC ts ao n c pb tb W hp).step = tapeStep ts from rfl, tapeStep, List.drop_zero]
    cases ts with
    | nil => rfl
    | cons x r =>
      simp only [replay]
      by_cases h : x < 0 ∨ k < x
      · rw [if_pos h, if_pos h]
      · rw [if_neg h, if_neg h]
        have hm := rep_many (x :: r) ao n c pb tb W hp a (b - a) x.toNat 1
        rw [show (x :: r).drop 1 = r from rfl] at hm
        simp only [Nat.zero_add]
        rw [hm]
        cases (repC (x :: r) ao n c pb tb W hp).many (b - a) x.toNat 1 with
        | error e => rfl
        | ok q =>
          obtain ⟨xs, t⟩ := q
          simp only [List.drop_eq_nil_iff]
end Go.Proofs.YtalbllijahiiiaaGreatDoor
end
