/- path.made: what it lays first. No conditions. -/
import Derived.Test.YtppbaiilhaagdaaPath1
import Derived.Test.YtppbaiilhaagdaaRep
import Derived.Test.YtppbaiilhaagdaaCheck2
import Derived.Test.YtppbaiilhaagdaaMet
import Derived.Test.YtppbaiilhaagdaaPairs
import Derived.Test.YtppbaiilhaagdaaPutAt
namespace Go.Proofs.Ytppbaiilhaagdaa
open Go.RowKit Go.Mine Go.Mine.Path Go.Mine.Flow Go.Deep

theorem infoRow : (Try.prog.info? 27).map (fun i => (i.zero, i.size, i.bytes)) = some (some (.slice none 0 0), 1, 24) := by kernel_rfl
/-- What lies there first. -/
def Laid1 (n nb L gb gs bn bp : Nat) (w : World) : Prop :=
  w.cell? ⟨nb, 0, none⟩ = some (.int .i64 n) ∧ w.cell? ⟨gb, 0, none⟩ = some (.pointer (some ⟨gs, 0, none⟩)) ∧ w.cell? ⟨gs, 0, none⟩ = some (.slice (some ⟨bn, 0, none⟩) n n) ∧ w.cell? ⟨gs, 1, none⟩ = some (.slice (some ⟨bp, 0, none⟩) n n) ∧
  w.rowIs bn 27 n (fun _ => .slice none 0 0) ∧ w.rowIs bp 3 n (fun _ => .int .i64 (-1)) ∧ nb < bp ∧ (gb ≠ bp ∧ gs ≠ bp ∧ bn ≠ bp ∧ gb ≠ bn ∧ gs ≠ bn ∧ gb ≠ gs) ∧ (L ≤ gb ∧ L ≤ gs ∧ L ≤ bn ∧ L ≤ bp)

theorem keep_alloc {w : World} {a : Addr} {v : Value} (h : w.cell? a = some v) (o : Obj) : (w.alloc o).cell? a = some v := (World.grownBy_alloc w o none).cell h (by simp)
theorem bcells {W w1 : World} (hb : Below W.heap.size W w1) : (∀ b o, b < W.heap.size → w1.cell? ⟨b, o, none⟩ = W.cell? ⟨b, o, none⟩) ∧ (∀ b o, b < W.heap.size → w1.frozen? ⟨b, o, none⟩ = W.frozen? ⟨b, o, none⟩) :=
  ⟨fun b o h => hb.cell (p := ⟨b, o, none⟩) h, fun b o h => hb.frozen (p := ⟨b, o, none⟩) h⟩
theorem keep_drew {w : World} {a : Addr} {v : Value} (h : w.cell? a = some v) : w.drew.cell? a = some v := h
theorem keep_set {w : World} {a b : Addr} {v u : Value} (h : w.cell? a = some v) (hne : b.block ≠ a.block) : (w.setCell b u).cell? a = some v := (World.cell?_setCell_far w b a u hne).trans h

theorem at_new (w : World) (c : Array Value) (t : TypeId) (n i : Nat) {v : Value} (hn : n = w.heap.size) (hi : c[i]? = some v) : (w.alloc (.cells c t)).cell? ⟨n, i, none⟩ = some v := by
  subst hn; rw [cell_of_row _ _ i _ _ _ (heap_alloc_new w (.cells c t))]; exact hi
theorem at_one (w : World) (v : Value) (t : TypeId) (n : Nat) (hn : n = w.heap.size) : (w.alloc (.cells #[v] t)).cell? ⟨n, 0, none⟩ = some v := at_new w _ t n 0 hn rfl
theorem at_fst (w : World) (v u : Value) (t : TypeId) (n : Nat) (hn : n = w.heap.size) : (w.alloc (.cells #[v, u] t)).cell? ⟨n, 0, none⟩ = some v := at_new w _ t n 0 hn rfl
theorem at_snd (w : World) (v u : Value) (t : TypeId) (n : Nat) (hn : n = w.heap.size) : (w.alloc (.cells #[v, u] t)).cell? ⟨n, 1, none⟩ = some u := at_new w _ t n 1 hn rfl
theorem at_set {w : World} {a : Addr} {v u : Value} (h : w.cell? a = some u) : (w.setCell a v).cell? a = some v := World.cell?_setCell_same' w a v (by rw [h]; rfl)
theorem below_al {w0 w : World} (h : Below w0.heap.size w0 w) (o : Obj) : Below w0.heap.size w0 (w.alloc o) := h.alloc h.size o
theorem below_call {w0 w w2 : World} (h : Below w0.heap.size w0 w) (hb : Below w.heap.size w w2) : Below w0.heap.size w0 w2 := h.trans (hb.mono h.size)
theorem cell_call {w w2 : World} {a : Addr} {v : Value} (h : w.cell? a = some v) (hb : Below w.heap.size w w2) : w2.cell? a = some v := (hb.cell (World.block_lt_of_cell? w _ h)).trans h
theorem rowIs_call {w w2 : World} {b : Nat} {t : TypeId} {n : Nat} {f : Nat → Value} (h : w.rowIs b t n f) (hb : Below w.heap.size w w2) : w2.rowIs b t n f := h.of_block (hb.block b h.lt)
theorem rowIs_rep {w : World} {base g n : Nat} {v : Int} (h : w.ownsRow base 3 1 (.slice (some ⟨g, 0, none⟩) n n) n ((List.replicate n v).map (Value.int .i64))) : w.rowIs g 3 n (fun _ => .int .i64 v) := by
  rcases h.2 with ⟨h1, _⟩ | ⟨g', cap, cur, h1, _, hg, _, _, hs, ht⟩
  · cases h1
  · cases h1
    rw [Nat.mul_one] at hs ht
    refine ⟨cur, hg, hs, fun i hi => ?_⟩
    have h2 : (cur.toList.take n)[i]? = some (.int .i64 v) := by rw [ht]; simp [hi]
    rw [List.getElem?_take_of_lt hi] at h2
    simpa using h2
theorem rowIs_eq {w : World} {b b' : Nat} {t : TypeId} {n : Nat} {f : Nat → Value} (h : w.rowIs b t n f) (e : b = b') : w.rowIs b' t n f := e ▸ h
theorem made_at (w : World) (z : Value) (n : Nat) (t : TypeId) (b : Nat) (hb : b = w.heap.size) : (w.alloc (.cells (madeCells #[z] n) t)).rowIs b t n (fun _ => z) := by subst hb; exact World.rowIs_made w z n t

theorem laid1_mk {n nb gb gs bn bp : Nat} {w0 w : World} (a2 : w.cell? ⟨gb, 0, none⟩ = some (.pointer (some ⟨gs, 0, none⟩))) (a3 : w.cell? ⟨gs, 0, none⟩ = some (.slice (some ⟨bn, 0, none⟩) n n)) (a4 : w.cell? ⟨gs, 1, none⟩ = some (.slice (some ⟨bp, 0, none⟩) n n)) (a1 : w.cell? ⟨nb, 0, none⟩ = some (.int .i64 n))
    (a5 : w.rowIs bn 27 n (fun _ => .slice none 0 0)) (a6 : w.rowIs bp 3 n (fun _ => .int .i64 (-1))) (d : Below w0.heap.size w0 w) (c : (nb < bp ∧ (gb ≠ bp ∧ gs ≠ bp ∧ bn ≠ bp ∧ gb ≠ bn ∧ gs ≠ bn ∧ gb ≠ gs)) ∧ w0.heap.size ≤ gb ∧ w0.heap.size ≤ gs ∧ w0.heap.size ≤ bn ∧ w0.heap.size ≤ bp) :
    ∃ gb' gs bn bp, Value.pointer (some ⟨gb, 0, none⟩) = .pointer (some ⟨gb', 0, none⟩) ∧ RowKit.Hid (Laid1 n nb w0.heap.size gb' gs bn bp w) ∧ RowKit.Hid (Below w0.heap.size w0 w) :=
  ⟨gb, gs, bn, bp, rfl, Lib.hid ⟨a1, a2, a3, a4, a5, a6, c.1.1, c.1.2, c.2⟩, Lib.hid d⟩

/-- The rows as they are filled. -/
structure MG (n nb gb gs bn bp L : Nat) (nv : Nat → Value) (rows : Nat → List Int) (w : World) : Prop where
  cnb : w.cell? ⟨nb, 0, none⟩ = some (.int .i64 n)
  cgb : w.cell? ⟨gb, 0, none⟩ = some (.pointer (some ⟨gs, 0, none⟩))
  g0 : w.cell? ⟨gs, 0, none⟩ = some (.slice (some ⟨bn, 0, none⟩) n n)
  g1 : w.cell? ⟨gs, 1, none⟩ = some (.slice (some ⟨bp, 0, none⟩) n n)
  next : w.rowIs bn 27 n nv
  num : w.rowIs bp 3 n (fun _ => .int .i64 (-1))
  row : ∀ i, i < n → w.ownsRow L 3 1 (nv i) (rows i).length ((rows i).map (Value.int .i64))
  two : ∀ i j, i < n → j < n → i ≠ j → ∀ b, (nv i).ownBlock = some b → (nv j).ownBlock ≠ some b
  low : nb < L ∧ gb < L ∧ gs < L ∧ bn < L ∧ bp < L
  far : nb ≠ bn ∧ gb ≠ bn ∧ gs ≠ bn ∧ bp ≠ bn
/-- What a row's growth leaves. -/
theorem MG.kept {n nb gb gs bn bp L : Nat} {nv : Nat → Value} {rows : Nat → List Int} {w w' : World} (h : MG n nb gb gs bn bp L nv rows w) {row : Option Nat} (hg : w.grownBy w' row) (hr : ∀ k, row = some k → w.heap.size ≤ k) : MG n nb gb gs bn bp L nv rows w' := by
  have ne : ∀ {a : Addr} {v : Value}, w.cell? a = some v → some a.block ≠ row := fun {a v} hc e => by
    have := World.block_lt_of_cell? w _ hc
    have := hr _ e.symm
    omega
  have ne2 : ∀ {b t f}, w.rowIs b t n f → some b ≠ row := fun {b t f} hb e => by have := hb.lt; have := hr _ e.symm; omega
  exact ⟨hg.cell h.cnb (ne h.cnb), hg.cell h.cgb (ne h.cgb), hg.cell h.g0 (ne h.g0), hg.cell h.g1 (ne h.g1), rowIs_grown h.next hg (ne2 h.next), rowIs_grown h.num hg (ne2 h.num),
    fun i hi => (h.row i hi).kept hg (by
      cases e : (nv i).ownBlock with
      | none => exact .inl rfl
      | some b => refine .inr (fun e2 => ?_); have := ((h.row i hi).lt b e).2; have := hr _ e2.symm; omega), h.two, h.low, h.far⟩
theorem MG.drew {n nb gb gs bn bp L : Nat} {nv : Nat → Value} {rows : Nat → List Int} {w : World} (h : MG n nb gb gs bn bp L nv rows w) : MG n nb gb gs bn bp L nv rows w.drew := ⟨h.cnb, h.cgb, h.g0, h.g1, h.next, h.num, h.row, h.two, h.low, h.far⟩
theorem MG.alloc {n nb gb gs bn bp L : Nat} {nv : Nat → Value} {rows : Nat → List Int} {w : World} (h : MG n nb gb gs bn bp L nv rows w) (o : Obj) : MG n nb gb gs bn bp L nv rows (w.alloc o) := h.kept (World.grownBy_alloc w o none) (fun k h => by cases h)
/-- One number more in a row: appended, and laid back. -/
theorem MG.step {n nb gb gs bn bp L : Nat} {nv : Nat → Value} {rows : Nat → List Int} {w w' : World} (h : MG n nb gb gs bn bp L nv rows w) {a g cap : Nat} (ha : a < n) {x : Int} (hLs : L ≤ w.heap.size)
    (ho : w'.ownsRow L 3 1 (.slice (some ⟨g, 0, none⟩) ((rows a).length + 1) cap) ((rows a).length + 1) ((rows a).map (Value.int .i64) ++ [.int .i64 x])) (hg : w.grownBy w' (nv a).ownBlock) (hat : (nv a).ownBlock = some g ∨ g = w.heap.size) :
    MG n nb gb gs bn bp L (upd nv a (.slice (some ⟨g, 0, none⟩) ((rows a).length + 1) cap)) (upd rows a (rows a ++ [x])) (w'.setCell ⟨bn, a, none⟩ (.slice (some ⟨g, 0, none⟩) ((rows a).length + 1) cap)) := by
  obtain ⟨v, hv⟩ : ∃ v, v = Value.slice (some ⟨g, 0, none⟩) ((rows a).length + 1) cap := ⟨_, rfl⟩
  have hvb : v.ownBlock = some g := by rw [hv]; rfl
  rw [← hv] at ho ⊢
  obtain ⟨l1, l2, l3, l4, l5⟩ := h.low
  obtain ⟨f1, f2, f3, f4⟩ := h.far
  have hLb : ∀ k, (nv a).ownBlock = some k → L ≤ k := fun k hk => ((h.row a ha).lt k hk).1
  have ne : ∀ k, k < L → some k ≠ (nv a).ownBlock := fun k hk e => by have := hLb k e.symm; omega
  have hs : w'.grownBy (w'.setCell ⟨bn, a, none⟩ v) (some bn) := gset _ _ _ _
  have nb' : ∀ k, k ≠ bn → some k ≠ some bn := fun k hk e => hk (by simpa using e)
  have hgl : L ≤ g := by
    rcases hat with e | e
    · exact hLb g e
    · omega
  refine ⟨hs.cell (hg.cell h.cnb (ne _ l1)) (nb' _ f1), hs.cell (hg.cell h.cgb (ne _ l2)) (nb' _ f2), hs.cell (hg.cell h.g0 (ne _ l3)) (nb' _ f3), hs.cell (hg.cell h.g1 (ne _ l3)) (nb' _ f3),
    ((rowIs_grown h.next hg (ne _ l4)).set a v).congr (fun j _ => by unfold upd; split <;> rfl), rowIs_grown (rowIs_grown h.num hg (ne _ l5)) hs (nb' _ f4), fun i hi => ?_, fun i j hi hj hij b hb => ?_, h.low, h.far⟩
  · by_cases e : i = a
    · subst e
      rw [upd_same, upd_same, List.length_append, List.map_append]
      exact ho.kept hs (.inr (by rw [hvb]; intro e2; simp at e2; omega))
    · rw [upd_ne _ _ e, upd_ne _ _ e]
      refine ((h.row i hi).kept hg ?_).kept hs ?_
      · cases e3 : (nv i).ownBlock with
        | none => exact .inl rfl
        | some b => exact .inr (fun e2 => h.two i a hi ha e b e3 e2.symm)
      · cases e3 : (nv i).ownBlock with
        | none => exact .inl rfl
        | some b => refine .inr (fun e2 => ?_); have := ((h.row i hi).lt b e3).1; simp at e2; omega
  · by_cases e : i = a
    · subst e
      rw [upd_same, hvb] at hb
      rw [upd_ne _ _ (fun e => hij e.symm)]
      intro e2
      simp at hb
      subst hb
      rcases hat with e3 | e3
      · exact h.two i j hi hj hij g e3 e2
      · have := ((h.row j hj).lt g e2).2; omega
    · rw [upd_ne _ _ e] at hb
      by_cases e4 : j = a
      · subst e4
        rw [upd_same, hvb]
        intro e2
        simp at e2
        subst e2
        rcases hat with e3 | e3
        · exact h.two i j hi hj hij g hb e3
        · have := ((h.row i hi).lt g hb).2; omega
      · rw [upd_ne _ _ e4]
        exact h.two i j hi hj hij b hb
theorem MG.start {n nb L0 gb gs bn bp : Nat} {w : World} (h : Laid1 n nb L0 gb gs bn bp w) (hnb : nb < L0) : MG n nb gb gs bn bp w.heap.size (fun _ => .slice none 0 0) (fun _ => []) w := by
  obtain ⟨h1, h2, h3, h4, h5, h6, h7, h8, h9⟩ := h
  exact ⟨h1, h2, h3, h4, h5, h6, fun i _ => World.ownsRow_nil _ _ _ _, (fun i j _ _ _ b hb => by cases hb),
    ⟨World.block_lt_of_cell? w _ h1, World.block_lt_of_cell? w _ h2, World.block_lt_of_cell? w _ h3, h5.lt, h6.lt⟩, ⟨by omega, h8.2.2.2.1, h8.2.2.2.2.1, fun e => h8.2.2.1 e.symm⟩⟩

end Go.Proofs.Ytppbaiilhaagdaa
