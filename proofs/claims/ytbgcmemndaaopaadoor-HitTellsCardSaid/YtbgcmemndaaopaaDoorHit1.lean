/- hit.least: the least of some sets, rising, each once. No conditions beyond sizes. -/
import Derived.Test.YtbgcmemndaaopaaDoorUSort8
import Derived.Test.YtbgcmemndaaopaaDoorDelU
import Derived.Test.YtbgcmemndaaopaaDoorOwnSortE
import Derived.Test.YtbgcmemndaaopaaDoorHitP
import Derived.Test.YtbgcmemndaaopaaDoorShelf
import Derived.Test.YtbgcmemndaaopaaDoorMore
import Derived.Lib.AppendZeros
import Derived.Lib.SliceRun
import Derived.Laws.BitsAllLaws
import Derived.Deep.QuietTactic
import Derived.BigQuiet
namespace Go.Proofs.YtbgcmemndaaopaaDoor
open Go.RowKit Go.Mine Go.Mine.Hit Go.Sort

/-- Natural numbers as ints. -/
def cast (l : List Nat) : List Int := l.map fun n : Nat => (n : Int)
theorem cast_len (l : List Nat) : (cast l).length = l.length := by simp [cast]
theorem cast_get (l : List Nat) (k : Nat) : (cast l).getD k 0 = ((l.getD k 0 : Nat) : Int) := by
  unfold cast
  by_cases h : k < l.length
  · simp [h]
  · simp [List.getElem?_eq_none (show l.length ≤ k by omega)]
theorem mem_cast {l : List Nat} {x : Int} : x ∈ cast l ↔ ∃ n ∈ l, x = (n : Int) := by
  unfold cast
  rw [List.mem_map]
  exact ⟨fun ⟨n, h, e⟩ => ⟨n, h, e.symm⟩, fun ⟨n, h, e⟩ => ⟨n, h, e.symm⟩⟩

/-- t is another one within s. -/
def inner (s t : Int) : Bool := t != s && bits .and .u32 t s == t
def leastI (zs : List Int) : List Int := zs.filter fun s => !zs.any (inner s)
def leastL (ts : List Nat) : List Nat := (leastI (sorted (cast ts))).map Int.toNat
theorem inner_iff {s t : Nat} (hs : s < 4294967296) (ht : t < 4294967296) : inner (s : Int) (t : Int) = true ↔ t ≠ s ∧ Sub t s := by
  unfold inner
  rw [Bool.and_eq_true, bne_iff_ne, beq_iff_eq, u32_and_nat t s ht hs, ← sub_iff]
  constructor
  · rintro ⟨h1, h2⟩; exact ⟨by omega, by omega⟩
  · rintro ⟨h1, h2⟩; exact ⟨by omega, by omega⟩
theorem cast_leastL (ts : List Nat) : cast (leastL ts) = leastI (sorted (cast ts)) := by
  unfold leastL cast
  rw [List.map_map]
  have e : (leastI (sorted (cast ts))).map ((fun n : Nat => (n : Int)) ∘ Int.toNat) = (leastI (sorted (cast ts))).map id := List.map_congr_left fun x hx => by
    have h1 := (List.mem_filter.1 hx).1
    rw [(sorted_rise _).2] at h1
    obtain ⟨n, _, rfl⟩ := mem_cast.1 h1
    simp
  have e2 := e.trans (List.map_id _)
  unfold cast at e2
  exact e2
theorem leastL_lst {ts : List Nat} (h : ∀ t ∈ ts, t < 4294967296) : Lst (· ∈ ts) (leastL ts) := by
  have hmem : ∀ s : Nat, s ∈ leastL ts ↔ (s : Int) ∈ leastI (sorted (cast ts)) := fun s => by
    rw [← cast_leastL, mem_cast]
    exact ⟨fun hs => ⟨s, hs, rfl⟩, fun ⟨n, hn, e⟩ => by rw [show s = n by omega]; exact hn⟩
  have hin : ∀ s : Nat, (s : Int) ∈ sorted (cast ts) ↔ s ∈ ts := fun s => by
    rw [(sorted_rise _).2, mem_cast]
    exact ⟨fun ⟨n, hn, e⟩ => by rw [show s = n by omega]; exact hn, fun hs => ⟨s, hs, rfl⟩⟩
  constructor
  · have h1 : (leastI (sorted (cast ts))).Pairwise (· < ·) := (sorted_rise (cast ts)).1.filter _
    rw [← cast_leastL] at h1
    unfold cast at h1
    rw [List.pairwise_map] at h1
    exact h1.imp fun h => by omega
  · intro s
    rw [hmem]
    unfold leastI
    rw [List.mem_filter, hin]
    constructor
    · rintro ⟨h1, h2⟩
      refine ⟨h1, fun t ht hs => Decidable.byContradiction fun hne => ?_⟩
      rw [Bool.not_eq_true', List.any_eq_false] at h2
      exact h2 (t : Int) ((hin t).2 ht) ((inner_iff (h s h1) (h t ht)).2 ⟨hne, hs⟩)
    · rintro ⟨h1, h2⟩
      refine ⟨h1, ?_⟩
      rw [Bool.not_eq_true', List.any_eq_false]
      intro x hx hi
      rw [(sorted_rise _).2] at hx
      obtain ⟨t, ht, rfl⟩ := mem_cast.1 hx
      obtain ⟨h3, h4⟩ := (inner_iff (h s h1) (h t ht)).1 hi
      exact h3 (h2 t ht h4)

theorem slInfoU : (Tryd.prog.info? 35).map (fun i => (i.zero, i.size, i.bytes)) = some (some (.int .u32 0), 1, 4) := by kernel_rfl

theorem cloneU_own (ao : Option Addr) (c : Nat) (xs : List Int) (w : World) (hx : IntsAt .u32 w ao xs) (hn : ao = none → xs.length = 0) (hl : xs.length * 4 ≤ 140737488355328) :
    Calls Tryd.prog 17 #[.slice ao xs.length c] w fun e w' => ∃ v', e = .returned v' ∧ w'.ownsRow w.heap.size 35 1 v' xs.length (xs.map (Value.int .u32)) ∧ Below w.heap.size w w' := by
  cases ao with
  | none =>
    have hxs : xs = [] := List.eq_nil_of_length_eq_zero (hn rfl)
    subst hxs
    clear hx hn hl
    have q22 : ∀ (w : World) (a : Option Addr) (n c n' c' : Nat), (binOp .eql 22 (.slice a n c) (.slice none n' c')).run Tryd.prog w = .ok (.bool a.isNone) w := fun w a n c n' c' => Lib.run_eql_slice_nil w _ _ a n c n' c' Tryd.underlying22
    go_enter Tryd.func17, Tryd.ntmps17
    go_wp2_with fail
    go_ret
    exact ⟨_, rfl, World.ownsRow_nil _ _ _ _, Below.refl _ _⟩
  | some ad =>
    have HX := Lib.hid hx
    clear hx hn
    obtain ⟨i0, hi0, hz0, hz1, hz2⟩ := info_parts slInfoU
    have q22 : ∀ (w : World) (a : Option Addr) (n c n' c' : Nat), (binOp .eql 22 (.slice a n c) (.slice none n' c')).run Tryd.prog w = .ok (.bool a.isNone) w := fun w a n c n' c' => Lib.run_eql_slice_nil w _ _ a n c n' c' Tryd.underlying22
    go_enter Tryd.func17, Tryd.ntmps17
    go_wp2_with (at_builtin; refine wpList_append_any _ rfl _ _ 22 rfl w.heap.size 35 i0 (.int .u32 0) 1 4 Tryd.underlying22 hi0 hz0 hz1 hz2 rfl (by decide) _ 0 _ [] rfl ?c1 (some ad) xs.length c (xs.map (Value.int .u32)) rfl (by simp) (fun h => by cases h) ?c2 (ints1 _ _) ?c3 ?c4 ?c5 _ rfl ?_)
    case c1 => exact owns_empty (Nat.le_refl _) (heap_alloc_at _ _ rfl)
    case c2 => exact (HX.out.below (Nat.le_refl _) ((Below.refl _ _).alloc (Nat.le_refl _) _)).news
    case c3 => unfold maxLen; omega
    case c4 => omega
    case c5 => simp
    intro g cap w' hown hgrow hat hlt
    have hb : Below w.heap.size w w' := ((Below.refl _ _).alloc (Nat.le_refl _) _).grown hgrow (by simp) (by simp)
    clear hgrow hat hlt
    go_wp2_with fail
    go_ret
    exact ⟨_, rfl, by simpa using hown, hb⟩

/-- Sort of a slice of the call's own, nil too. -/
theorem sortU_row (w : World) (base : Nat) (v : Value) (xs : List Int) (hs : xs.length ≤ 1000000) (hb : base ≤ w.heap.size) (ho : w.ownsRow base 35 1 v xs.length (xs.map (Value.int .u32))) :
    Calls Tryd.prog 18 #[v] w fun e w' => e = .returned (.tuple #[]) ∧ w'.ownsRow base 35 1 v (xs.mergeSort fun x y => decide (x ≤ y)).length ((xs.mergeSort fun x y => decide (x ≤ y)).map (Value.int .u32)) ∧ Below base w w' := by
  rcases ho.2 with ⟨hv, h0⟩ | ⟨g, cap, cur, hv, hg, _⟩
  · have hx : xs = [] := List.eq_nil_of_length_eq_zero h0
    subst hx
    subst hv
    refine (Sort_u_nil none 0 w).mono ?_
    rintro e w' ⟨rfl, rfl⟩
    exact ⟨rfl, by simpa using World.ownsRow_nil _ _ _ _, Below.refl _ _⟩
  · subst hv
    obtain ⟨hh, hc, hm⟩ := own_holdsE (enc := encU) ho
    refine (slices_Sort_u g 0 cap xs w hh (ho.lt g rfl).2 (by omega)).mono ?_
    rintro e w' ⟨rfl, n, os, rfl⟩
    have h := own_putE (enc := encU) (ts := xs.mergeSort fun x y => decide (x ≤ y)) ho (List.length_mergeSort _) n os
    refine ⟨rfl, ?_, (Below.refl _ _).grown h.2 hb (fun k hk => by simp at hk; omega)⟩
    rw [List.length_mergeSort]
    exact h.1
theorem oneU : OneCell encU := fun _ => rfl
theorem compactU_row (w : World) (base : Nat) (v : Value) (zs : List Int) (hs : zs.length ≤ 1000000) (hb : base ≤ w.heap.size) (ho : w.ownsRow base 35 1 v zs.length (zs.map (Value.int .u32))) :
    Calls Tryd.prog 19 #[v] w fun e w' => ∃ v', e = .returned v' ∧ w'.ownsRow base 35 1 v' (Lib.compact zs).length ((Lib.compact zs).map (Value.int .u32)) ∧ Below base w w' := by
  rcases ho.2 with ⟨hv, h0⟩ | ⟨g, cap, cur, hv, hg, _⟩
  · have hx : zs = [] := List.eq_nil_of_length_eq_zero h0
    subst hx
    subst hv
    clear ho
    go_enter Tryd.func19, Tryd.ntmps19
    go_wp2_with fail
    go_ret
    exact ⟨_, rfl, World.ownsRow_nil _ _ _ _, Below.refl _ _⟩
  · subst hv
    obtain ⟨hh, hc, hm⟩ := own_holdsE (enc := encU) ho
    refine (Tryd.slices_Compact encU oneU (EqlAt.intD _ _ _) (NeqAt.intD _ _ _) 0 uZero g 0 cap zs.toArray w hh (by simp; omega) (by simpa using hc)).mono ?_
    rintro e w' ⟨rfl, q, rfl⟩
    have hcl := Lib.compact_length_le zs
    have hcut := own_cutE (enc := encU) (ys := Lib.compact zs) 0 ho hcl q
    unfold Lib.compact at hcut hcl
    rw [show zs.toArray.size = zs.length by simp]
    exact ⟨_, rfl, hcut.1, (Below.refl _ _).grown hcut.2 hb (fun k hk => by simp at hk; omega)⟩

/-- The inner function: t is another one within s, which lies in its box. -/
theorem inner_any (sb : Nat) (s t : Int) (w : World) (hc : w.cell? ⟨sb, 0, none⟩ = some (.int .u32 s)) :
    Calls Tryd.prog 23 #[.int .u32 t, .pointer (some ⟨sb, 0, none⟩)] w fun e w' => e = .returned (.bool (inner s t)) ∧ Below w.heap.size w w' := by
  by_cases h1 : t = s
  · subst h1
    have hi : inner t t = false := by unfold inner; simp
    have b1 : (t != t) = false := by simp
    rw [hi]
    clear hi
    go_enter Tryd.func23, Tryd.ntmps23
    go_wp2_with fail
    go_ret
    exact ⟨rfl, Below.refl _ _⟩
  · have hi : inner s t = (bits .and .u32 t s == t) := by unfold inner; rw [bne_iff_ne.2 h1, Bool.true_and]
    have b1 : (t != s) = true := bne_iff_ne.2 h1
    have b2 : (t == s) = false := beq_eq_false_iff_ne.2 h1
    have b3 : decide (t = s) = false := decide_eq_false h1
    rw [hi]
    clear hi
    go_enter Tryd.func23, Tryd.ntmps23
    go_wp2_with fail
    go_ret
    exact ⟨rfl, Below.refl _ _⟩
theorem inner_enters (v : Value) (lb : Array Value) (w : World) : Sem.run Tryd.prog (callFunc 23 (#[v] ++ lb)) w = .ok (.enter 23 (#[v] ++ lb)) w := by kernel_rfl
theorem outer_enters (v : Value) (lb : Array Value) (w : World) : Sem.run Tryd.prog (callFunc 21 (#[v] ++ lb)) w = .ok (.enter 21 (#[v] ++ lb)) w := by kernel_rfl

/-- The outer one: is there one? -/
theorem outer_any (zs : List Int) (hl : zs.length ≤ 1000000) (ab : Nat) (ao : Option Addr) (ac : Nat) (s : Int) (w : World) (hc : w.cell? ⟨ab, 0, none⟩ = some (.slice ao zs.length ac)) (hx : IntsAt .u32 w ao zs) :
    Calls Tryd.prog 21 #[.int .u32 s, .pointer (some ⟨ab, 0, none⟩)] w fun e w' => e = .returned (.bool (zs.any (inner s))) ∧ Below w.heap.size w w' := by
  obtain ⟨w1, hw1⟩ : ∃ w1, w.alloc (.cells #[.int .u32 s] 35) = w1 := ⟨_, rfl⟩
  obtain ⟨sb, hsb⟩ : ∃ sb, w.heap.size = sb := ⟨_, rfl⟩
  have hb1 : Below w.heap.size w w1 := by rw [← hw1]; exact (Below.refl _ _).alloc (Nat.le_refl _) _
  have hcs : w1.heap[sb]? = some (.cells #[.int .u32 s] 35 (0, 0)) := by rw [← hw1, ← hsb]; exact heap_alloc_new _ _
  have hsz : w1.heap.size = sb + 1 := by rw [← hw1, ← hsb]; simp
  have hc1 : w1.cell? ⟨ab, 0, none⟩ = some (.slice ao zs.length ac) := (hb1.cell (World.block_lt_of_cell? w _ hc)).trans hc
  have HX := Lib.hid (hx.below (Nat.le_refl _) hb1)
  have HG := Lib.hid (ctnU_any zs ao ac w1 HX.out (by unfold maxLen; omega) 23 #[.pointer (some ⟨sb, 0, none⟩)] none (inner s) (fun v w => inner_enters v _ w) (fun w' hg x _ => by
    have h := grown_heap hg hcs (by simp)
    exact inner_any sb s x w' (by rw [cell_of_row w' _ 0 _ _ _ h]; rfl)))
  have HB := Lib.hid hb1
  obtain ⟨r, hr⟩ : ∃ r, r = zs.any (inner s) := ⟨_, rfl⟩
  rw [← hr] at HG ⊢
  clear hx hb1 hcs hc hr
  go_enter Tryd.func21, Tryd.ntmps21
  go_wp2_with fail
  refine HG.out.mono ?_
  rintro e w2 ⟨rfl, hb2⟩
  have HB2 := Lib.hid (HB.out.trans (hb2.mono HB.out.size))
  clear hb2
  go_wp2_with fail
  go_ret
  exact ⟨rfl, HB2.out⟩
end Go.Proofs.YtbgcmemndaaopaaDoor
