/- A block of the heap and what it holds; what a call may touch. No program. -/
import Derived.Test.YtalbllijahiiiaaGreatDoorLib
import Derived.Test.YtalbllijahiiiaaGreatDoorMore
namespace Go.Mine
open Go Go.RowKit

/-- Block b holds these cells, none of them frozen. -/
def Blk (w : World) (b : Nat) (T : TypeId) (cs : Array Value) : Prop := w.heap[b]? = some (.cells cs T (0, 0))
theorem Blk.lt {w : World} {b : Nat} {T : TypeId} {cs : Array Value} (h : Blk w b T cs) : b < w.heap.size := (Array.getElem?_eq_some_iff.1 h).1
theorem Blk.cell {w : World} {b : Nat} {T : TypeId} {cs : Array Value} (h : Blk w b T cs) (i : Nat) : w.cell? ⟨b, i, none⟩ = cs[i]? := by
  have h' : w.heap[b]? = some (.cells cs T (0, 0)) := h
  simp [World.cell?, h']
theorem Blk.froz {w : World} {b : Nat} {T : TypeId} {cs : Array Value} (h : Blk w b T cs) (i : Nat) : w.frozen? ⟨b, i, none⟩ = false := by
  have h' : w.heap[b]? = some (.cells cs T (0, 0)) := h
  simp [World.frozen?, h']
theorem Blk.new (w : World) (T : TypeId) (cs : Array Value) : Blk (w.alloc (.cells cs T)) w.heap.size T cs := heap_alloc_new _ _
theorem Blk.same {w w' : World} {b : Nat} {T : TypeId} {cs : Array Value} (h : Blk w b T cs) (e : w'.heap[b]? = w.heap[b]?) : Blk w' b T cs := e.trans h
theorem Blk.below {w w' : World} {b : Nat} {T : TypeId} {cs : Array Value} (h : Blk w b T cs) (hb : Below w.heap.size w w') : Blk w' b T cs := h.same (hb.block b h.lt)
theorem Blk.alloc {w : World} {b : Nat} {T : TypeId} {cs : Array Value} (h : Blk w b T cs) (o : Obj) : Blk (w.alloc o) b T cs := h.same (Below.heap_alloc w o b h.lt)
theorem Blk.drew {w : World} {b : Nat} {T : TypeId} {cs : Array Value} (h : Blk w b T cs) : Blk w.drew b T cs := h
theorem Blk.drewN {w : World} {b : Nat} {T : TypeId} {cs : Array Value} (h : Blk w b T cs) (n : Nat) : Blk (w.drewN n) b T cs := h
theorem Blk.set {w : World} {b : Nat} {T : TypeId} {cs : Array Value} (h : Blk w b T cs) (i : Nat) (v : Value) : Blk (w.setCell ⟨b, i, none⟩ v) b T (cs.setIfInBounds i v) := by
  have h' : w.heap[b]? = some (.cells cs T (0, 0)) := h
  simp [Blk, World.setCell, Array.getElem?_modify, h']
theorem Blk.other {w : World} {b : Nat} {T : TypeId} {cs : Array Value} (h : Blk w b T cs) (b' i : Nat) (hne : b ≠ b') (v : Value) : Blk (w.setCell ⟨b', i, none⟩ v) b T cs := h.same (Below.heap_setCell w ⟨b', i, none⟩ v b hne)
theorem Blk.ints {w : World} {b : Nat} {T : TypeId} {k : IntKind} {cs : Array Value} {zs : List Int} (h : Blk w b T cs) (hz : ∀ j, j < zs.length → cs[j]? = some (.int k (zs.getD j 0))) : ∀ j, j < zs.length → w.cell? ⟨b, 0 + j, none⟩ = some (.int k (zs.getD j 0)) := fun j hj => by rw [Nat.zero_add, h.cell]; exact hz j hj

/-- Nothing that was there turns but in these blocks. -/
structure Tch (S : Nat → Prop) (w w' : World) : Prop where
  os : w'.os = w.os
  tape : w'.tape = w.tape
  output : w'.output = w.output
  size : w.heap.size ≤ w'.heap.size
  block : ∀ k, k < w.heap.size → ¬ S k → w'.heap[k]? = w.heap[k]?
theorem Tch.refl (S : Nat → Prop) (w : World) : Tch S w w := ⟨rfl, rfl, rfl, Nat.le_refl _, fun _ _ _ => rfl⟩
theorem Tch.of_below {S : Nat → Prop} {w w' : World} (h : Below w.heap.size w w') : Tch S w w' := ⟨h.os, h.tape, h.output, h.size, fun k hk _ => h.block k hk⟩
theorem Tch.trans {S T : Nat → Prop} {a b c : World} (h : Tch S a b) (k : Tch T b c) (hT : ∀ x, T x → S x ∨ a.heap.size ≤ x) : Tch S a c :=
  ⟨k.os.trans h.os, k.tape.trans h.tape, k.output.trans h.output, Nat.le_trans h.size k.size, fun x hx hn => by
    rw [k.block x (Nat.lt_of_lt_of_le hx h.size) (fun ht => by rcases hT x ht with h1 | h1; exact hn h1; omega), h.block x hx hn]⟩
theorem Tch.mono {S T : Nat → Prop} {w w' : World} (h : Tch S w w') (hS : ∀ x, S x → T x) : Tch T w w' := ⟨h.os, h.tape, h.output, h.size, fun k hk hn => h.block k hk fun hs => hn (hS k hs)⟩
theorem Tch.below {S : Nat → Prop} {B : Nat} {w w' : World} (h : Tch S w w') (hB : B ≤ w.heap.size) (hS : ∀ x, S x → B ≤ x) : Below B w w' :=
  ⟨h.os, h.tape, h.output, h.size, fun k hk => h.block k (by omega) fun hs => by have := hS k hs; omega⟩
theorem Tch.set {S : Nat → Prop} {w w' : World} (h : Tch S w w') {p : Addr} (hp : S p.block ∨ w.heap.size ≤ p.block) (v : Value) : Tch S w (w'.setCell p v) :=
  ⟨h.os, h.tape, h.output, by simpa [World.setCell] using h.size, fun k hk hn => by
    rw [Below.heap_setCell w' p v k (fun e => by subst e; rcases hp with h1 | h1; exact hn h1; omega)]
    exact h.block k hk hn⟩
theorem Tch.alloc {S : Nat → Prop} {w w' : World} (h : Tch S w w') (o : Obj) : Tch S w (w'.alloc o) :=
  ⟨h.os, h.tape, h.output, by rw [show (w'.alloc o).heap.size = w'.heap.size + 1 by simp]; exact Nat.le_succ_of_le h.size, fun k hk hn => by
    rw [Below.heap_alloc w' o k (Nat.lt_of_lt_of_le hk h.size)]
    exact h.block k hk hn⟩
theorem Tch.drew {S : Nat → Prop} {w w' : World} (h : Tch S w w') : Tch S w w'.drew := ⟨h.os, h.tape, h.output, h.size, h.block⟩
theorem Tch.drewN {S : Nat → Prop} {w w' : World} (h : Tch S w w') (n : Nat) : Tch S w (w'.drewN n) := ⟨h.os, h.tape, h.output, h.size, h.block⟩
theorem Tch.grown {S : Nat → Prop} {a w w' : World} {row : Option Nat} (h : Tch S a w) (hg : w.grownBy w' row) (hr : ∀ k, row = some k → S k ∨ a.heap.size ≤ k) : Tch S a w' :=
  ⟨hg.os.trans h.os, hg.tape.trans h.tape, hg.output.trans h.output, Nat.le_trans h.size hg.size, fun k hk hn => by
    rw [hg.block k (Nat.lt_of_lt_of_le hk h.size) (fun e => by rcases hr k e.symm with h1 | h1; exact hn h1; omega)]
    exact h.block k hk hn⟩
theorem Blk.touch {S : Nat → Prop} {w w' : World} {b : Nat} {T : TypeId} {cs : Array Value} (h : Blk w b T cs) (ht : Tch S w w') (hn : ¬ S b) : Blk w' b T cs := h.same (ht.block b h.lt hn)
end Go.Mine
