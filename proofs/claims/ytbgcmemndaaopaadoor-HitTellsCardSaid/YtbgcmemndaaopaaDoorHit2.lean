/- hit.least, Check, Least, Hits. No conditions beyond sizes. -/
import Derived.Test.YtbgcmemndaaopaaDoorHit1
namespace Go.Mine.Hit
/-- No more than so many. -/
theorem rise_from : ∀ {l : List Nat} {lo m : Nat}, l.Pairwise (· < ·) → (∀ x ∈ l, lo ≤ x ∧ x < m) → l.length ≤ m - lo
  | [], _, _, _, _ => Nat.zero_le _
  | x :: l, lo, m, h, hm => by
    rw [List.pairwise_cons] at h
    have h1 := rise_from (l := l) (lo := x + 1) (m := m) h.2 (fun y hy => ⟨h.1 y hy, (hm y (List.mem_cons_of_mem _ hy)).2⟩)
    have := hm x List.mem_cons_self
    simp only [List.length_cons]
    omega
theorem rise_len {l : List Nat} {m : Nat} (h : l.Pairwise (· < ·)) (hm : ∀ x ∈ l, x < m) : l.length ≤ m := rise_from (lo := 0) h fun x hx => ⟨Nat.zero_le _, hm x hx⟩
theorem Lst.len {l out : List Nat} (h : Lst (U l) out) : out.length ≤ 4096 := rise_len h.1 fun _ hx => (h.so hx).1
theorem nextOf_len (s h : Nat) : (nextOf s h).length ≤ 12 := by
  unfold nextOf
  split
  · rw [List.length_map]
    have := List.length_filter_le (fun k => s.testBit k) (List.range 12)
    rwa [List.length_range] at this
  · simp
theorem next_len (s : Nat) : ∀ out : List Nat, (next out s).length ≤ out.length * 12
  | [] => by simp [next]
  | h :: out => by
    have h1 := next_len s out
    have h2 := nextOf_len s h
    unfold next at h1 ⊢
    rw [List.flatMap_cons, List.length_append, List.length_cons]
    omega
theorem next_take {out : List Nat} (s : Nat) {j : Nat} (hj : j < out.length) : next (out.take (j + 1)) s = next (out.take j) s ++ nextOf s (out.getD j 0) := by
  unfold next
  rw [List.take_succ_eq_append_getElem hj, List.flatMap_append]
  simp [hj]
/-- h with one of s, of the first i. -/
def withOf (s h i : Nat) : List Nat := ((List.range i).filter fun k => s.testBit k).map fun k => h ||| 2 ^ k
theorem withOf_succ (s h i : Nat) : withOf s h (i + 1) = withOf s h i ++ (if s.testBit i = true then [h ||| 2 ^ i] else []) := by
  unfold withOf
  rw [List.range_succ, List.filter_append, List.map_append]
  cases hb : s.testBit i <;> simp [List.filter, hb]
theorem withOf_stop {s h i : Nat} (hs : s < 2 ^ i) : ∀ m, withOf s h (i + m) = withOf s h i
  | 0 => rfl
  | m + 1 => by
    rw [← Nat.add_assoc, withOf_succ, withOf_stop hs m]
    have : s.testBit (i + m) = false := Nat.testBit_lt_two_pow (Nat.lt_of_lt_of_le hs (Nat.pow_le_pow_right (by decide) (by omega)))
    rw [this]
    simp
theorem withOf_end {s h i : Nat} (hs : s < 2 ^ i) (h12 : s < 4096) : withOf s h i = withOf s h 12 := by
  rcases Nat.le_total i 12 with hi | hi
  · have := withOf_stop (h := h) hs (12 - i)
    rw [show i + (12 - i) = 12 by omega] at this
    exact this.symm
  · have := withOf_stop (h := h) (i := 12) (s := s) h12 (i - 12)
    rw [show 12 + (i - 12) = i by omega] at this
    exact this
theorem withOf_len (s h i : Nat) : (withOf s h i).length ≤ i := by
  unfold withOf
  rw [List.length_map]
  have := List.length_filter_le (fun k => s.testBit k) (List.range i)
  rwa [List.length_range] at this
theorem nextOf_with {s h : Nat} (hc : h &&& s = 0) : nextOf s h = withOf s h 12 := by unfold nextOf; rw [if_pos hc]; rfl
theorem nextOf_one {s h : Nat} (hc : h &&& s ≠ 0) : nextOf s h = [h] := by unfold nextOf; rw [if_neg hc]
theorem bit_and {s i : Nat} : s &&& 2 ^ i ≠ 0 ↔ s.testBit i = true := by
  rw [cut_iff]
  constructor
  · rintro ⟨j, h1, h2⟩
    rw [Nat.testBit_two_pow, decide_eq_true_eq] at h2
    subst h2
    exact h1
  · intro h
    exact ⟨i, h, by rw [Nat.testBit_two_pow]; simp⟩
/-- Right sets; what is told of others. -/
def ok (ts : List Nat) : Prop := ts.length ≤ 20 ∧ ∀ t ∈ ts, t < 4096
def fault (ts : List Nat) : Int := if 20 < ts.length then 4 else if ∀ t ∈ ts, t < 4096 then 0 else 1
theorem fault_ok {ts : List Nat} (h : ok ts) : fault ts = 0 := by unfold fault; rw [if_neg (by have := h.1; omega), if_pos h.2]
theorem fault_bad {ts : List Nat} (h : ¬ ok ts) : fault ts = 1 ∨ fault ts = 4 := by
  unfold fault
  split
  · exact .inr rfl
  · split
    · rename_i h1 h2; exact absurd ⟨by omega, h2⟩ h
    · exact .inl rfl
theorem get_lt {ts : List Nat} {m : Nat} (hm : 0 < m) (h : ∀ t ∈ ts, t < m) (k : Nat) : ts.getD k 0 < m := by
  by_cases hk : k < ts.length
  · rw [show ts.getD k 0 = ts[k] by simp [hk]]; exact h _ (List.getElem_mem hk)
  · rw [show ts.getD k 0 = 0 by simp [List.getElem?_eq_none (show ts.length ≤ k by omega)]]; exact hm
theorem take_snoc {ts : List Nat} {k : Nat} (hk : k < ts.length) : ts.take (k + 1) = ts.take k ++ [ts.getD k 0] := by
  rw [List.take_succ_eq_append_getElem hk]; simp [hk]
end Go.Mine.Hit
namespace Go.Proofs.YtbgcmemndaaopaaDoor
open Go.RowKit Go.Mine Go.Mine.Hit Go.Sort

theorem delU_row (es : List Int) (base : Nat) (v : Value) (w : World) (hb : base ≤ w.heap.size) (ho : w.ownsRow base 35 1 v es.length (es.map (Value.int .u32))) (hl : es.length ≤ maxLen) (g : Nat) (lb : Array Value) (p : Int → Bool)
    (hrun : ∀ v w, Sem.run Tryd.prog (callFunc g (#[v] ++ lb)) w = .ok (.enter g (#[v] ++ lb)) w) (hp : GivesU g lb w v.ownBlock p es) :
    Calls Tryd.prog 20 #[v, .func (.func g) #[] lb] w fun e w' =>
      ∃ v', e = .returned v' ∧ w'.ownsRow base 35 1 v' (es.filter fun x => !p x).length ((es.filter fun x => !p x).map (Value.int .u32)) ∧ Below base w w' := by
  rcases ho.2 with ⟨hv, h0⟩ | ⟨gr, cap, cur, hv, hg, _⟩
  · have hx : es = [] := List.eq_nil_of_length_eq_zero h0
    subst hx
    subst hv
    have HI := Lib.hid (idxU_any [] none 0 w (IntsAt.nil _ _ _) (by simp [maxLen]) g lb none p hrun (fun _ _ x hx => by cases hx))
    clear ho hp h0
    go_enter Tryd.func20, Tryd.ntmps20
    go_wp2_with fail
    refine HI.out.mono ?_
    clear HI
    rintro e w1 ⟨⟨z, rfl, hz⟩, hb1⟩
    rcases hz with ⟨rfl, _⟩ | ⟨k, _, hk, _⟩
    · have HB := Lib.hid hb1
      clear hb1
      go_wp2_with fail
      go_ret
      exact ⟨_, rfl, World.ownsRow_nil _ _ _ _, HB.out.mono hb⟩
    · simp at hk
  · subst hv
    refine (delU_any es base gr cap w ho hl g lb p hrun hp).mono ?_
    rintro e w' ⟨rfl, h1, h2⟩
    exact ⟨_, rfl, h1, (Below.refl _ _).grown h2 hb (fun k hk => by cases hk; exact hg)⟩

set_option maxHeartbeats 1000000 in
/-- hit.least: the least of some sets. -/
theorem hleast_any (ts : List Nat) (ao : Option Addr) (c : Nat) (W : World) (hx : IntsAt .u32 W ao (cast ts)) (hn : ao = none → ts.length = 0) (hl : ts.length ≤ 1000000) :
    Calls Tryd.prog 15 #[.slice ao ts.length c] W fun e w' => ∃ v', e = .returned v' ∧ w'.ownsRow W.heap.size 35 1 v' (leastL ts).length ((cast (leastL ts)).map (Value.int .u32)) ∧ Below W.heap.size W w' := by
  have HC := Lib.hid (cloneU_own ao c (cast ts) W hx (fun h => by rw [cast_len]; exact hn h) (by rw [cast_len]; omega))
  rw [cast_len] at HC
  have HL := Lib.hid hl
  clear hx hn
  go_enter Tryd.func15, Tryd.ntmps15
  go_wp2_with fail
  refine HC.out.mono ?_
  clear HC
  rintro e w1 ⟨v1, rfl, ho1, hb1⟩
  have HS := Lib.hid (sortU_row w1 W.heap.size v1 (cast ts) (by rw [cast_len]; exact hl) hb1.size (by rw [cast_len]; exact ho1))
  have HB1 := Lib.hid hb1
  clear ho1 hb1
  go_wp2_with fail
  refine HS.out.mono ?_
  clear HS
  rintro e w2 ⟨rfl, ho2, hb2⟩
  have HB2 := Lib.hid (HB1.out.trans hb2)
  have hl2 : ((cast ts).mergeSort fun x y => decide (x ≤ y)).length = ts.length := by rw [List.length_mergeSort, cast_len]
  have HP := Lib.hid (compactU_row w2 W.heap.size v1 _ (by rw [hl2]; exact hl) HB2.out.size ho2)
  clear ho2 hb2 hl2
  go_wp2_with fail
  refine HP.out.mono ?_
  clear HP
  rintro e w3 ⟨v2, rfl, ho3, hb3⟩
  have HB3 := Lib.hid (HB2.out.trans hb3)
  have hsl : (sorted (cast ts)).length ≤ 1000000 := by have := sorted_len (cast ts); rw [cast_len] at this; omega
  obtain ⟨zs, hzs⟩ : ∃ zs, zs = sorted (cast ts) := ⟨_, rfl⟩
  have ho3' : w3.ownsRow W.heap.size 35 1 v2 zs.length (zs.map (Value.int .u32)) := by rw [hzs]; exact ho3
  rw [← hzs] at hsl
  obtain ⟨a2, c2, rfl⟩ := owns_shape ho3'
  have HC := Lib.hid (cloneU_own a2 c2 zs w3 (IntsAt.of_owns ho3') (fun h => by subst h; rcases ho3'.2 with ⟨_, h0⟩ | ⟨g, cap, cur, hv, _⟩; exact h0; cases hv) (by omega))
  have HO3 := Lib.hid ho3'
  have HZ := Lib.hid hzs
  clear ho3 ho3' hb3 hzs HB1 HB2
  go_wp2_with fail
  refine HC.out.mono ?_
  clear HC
  rintro e w4 ⟨v3, rfl, ho4, hb4⟩
  obtain ⟨a3, c3, rfl⟩ := owns_shape ho4
  obtain ⟨ab, hab⟩ : ∃ ab, w4.heap.size = ab := ⟨_, rfl⟩
  have hO4 := owns_below HO3.out hb4
  obtain ⟨w5, hw5⟩ : ∃ w5, w5 = w4.alloc (.cells #[.slice a3 zs.length c3] 22) := ⟨_, rfl⟩
  have hbx : w5.heap[ab]? = some (.cells #[.slice a3 zs.length c3] 22 (0, 0)) := by rw [hw5, ← hab]; exact heap_alloc_new _ _
  have hb5 : Below W.heap.size W w5 := by rw [hw5]; exact (HB3.out.trans (hb4.mono HB3.out.size)).alloc (by have := HB3.out.size; have := hb4.size; omega) _
  have hO5 : w5.ownsRow W.heap.size 35 1 (.slice a2 zs.length c2) zs.length (zs.map (Value.int .u32)) := by rw [hw5]; exact hO4.alloc _
  have hO35 : w5.ownsRow w3.heap.size 35 1 (.slice a3 zs.length c3) zs.length (zs.map (Value.int .u32)) := by rw [hw5]; exact ho4.alloc _
  have hD := delU_row zs W.heap.size (.slice a2 zs.length c2) w5 hb5.size hO5 (by unfold maxLen; omega) 21 #[.pointer (some ⟨ab, 0, none⟩)] (fun s => zs.any (inner s)) (fun v w => outer_enters v _ w) (fun w' hg x _ => by
    have h1 := grown_heap hg hbx (fun e => by
      have := (hO4.lt ab e).2
      omega)
    have h2 : w'.ownsRow w3.heap.size 35 1 (.slice a3 zs.length c3) zs.length (zs.map (Value.int .u32)) := owns_block hO35 fun g hg1 hg2 => hg.block g (hO35.lt g hg2).2 (fun e => by
      have := (HO3.out.lt g e.symm).2
      omega)
    exact outer_any zs hsl ab a3 c3 x w' (by rw [cell_of_row w' _ 0 _ _ _ h1]; rfl) (IntsAt.of_owns h2))
  have HD := Lib.hid hD
  have HB5 := Lib.hid hb5
  rw [hw5] at HD
  have HW5 := Lib.hid hw5
  clear hO4 hw5 hbx hb5 hO5 hO35 hD ho4 hb4 HO3
  go_wp2_with fail
  refine HD.out.mono ?_
  clear HD
  rintro e w6 ⟨v', rfl, ho6, hb6⟩
  have HO6 := Lib.hid ho6
  have HB6 := Lib.hid (HB5.out.trans (by rw [HW5.out]; exact hb6))
  clear ho6 hb6
  go_wp2_with fail
  go_ret
  refine ⟨_, rfl, ?_, HB6.out⟩
  have he : cast (leastL ts) = zs.filter fun s => !zs.any (inner s) := by rw [cast_leastL, HZ.out]; rfl
  have hle : (leastL ts).length = (zs.filter fun s => !zs.any (inner s)).length := by rw [← he, cast_len]
  rw [he, hle]
  exact HO6.out
end Go.Proofs.YtbgcmemndaaopaaDoor
