/- tour.Off. -/
import Derived.Test.YtnbnfgljbhidbaaDoorB
namespace Go.Proofs.YtnbnfgljbhidbaaDoor
open Go.RowKit Go.Mine Go.Mine.Tour Go.Deep

theorem info3 : (Tryd.prog.info? 3).map (fun i => (i.zero, i.size, i.bytes)) = some (some (.int .i64 0), 1, 8) := by kernel_rfl

/-- How many more of the first k edges go from v than come to it. -/
def offK (es : List (Int × Int)) (k : Nat) (v : Int) : Int := ((es.take k).countP (fun e => decide (e.1 = v)) : Int) - ((es.take k).countP (fun e => decide (e.2 = v)) : Int)
theorem offK_bound (es : List (Int × Int)) (k : Nat) (v : Int) : -(k : Int) ≤ offK es k v ∧ offK es k v ≤ k := by
  unfold offK
  have h1 := List.countP_le_length (p := fun e : Int × Int => decide (e.1 = v)) (l := es.take k)
  have h2 := List.countP_le_length (p := fun e : Int × Int => decide (e.2 = v)) (l := es.take k)
  rw [List.length_take] at h1 h2
  omega
theorem offK_succ {es : List (Int × Int)} {k : Nat} (hk : k < es.length) {a b : Int} (he : es.getD k (0, 0) = (a, b)) (v : Int) : offK es (k + 1) v = offK es k v + (if a = v then 1 else 0) - (if b = v then 1 else 0) := by
  unfold offK
  have ht : es.take (k + 1) = es.take k ++ [(a, b)] := by
    rw [List.take_succ_eq_append_getElem hk]
    simp [hk] at he
    rw [he]
  rw [ht, List.countP_append, List.countP_append, List.countP_singleton, List.countP_singleton]
  simp only [decide_eq_true_eq]
  by_cases e1 : a = v <;> by_cases e2 : b = v <;> simp [e1, e2] <;> omega

def offs (es : List (Int × Int)) (n k : Nat) : List Int := (List.range n).map fun v : Nat => offK es k v
theorem offs_len (es : List (Int × Int)) (n k : Nat) : (offs es n k).length = n := by simp [offs]
theorem offs_get (es : List (Int × Int)) (n k t : Nat) (ht : t < n) : (offs es n k)[t]? = some (offK es k t) := by simp [offs, ht]
theorem offs_zero (es : List (Int × Int)) (n : Nat) : offs es n 0 = List.replicate n 0 := by
  refine List.ext_getElem (by simp [offs_len]) fun t h1 h2 => ?_
  simp [offs, offK]
/-- The first step of an edge. -/
def offs1 (es : List (Int × Int)) (n k a : Nat) : List Int := (offs es n k).set a (offK es k a + 1)
theorem offs1_get (es : List (Int × Int)) (n k a t : Nat) (ht : t < n) : (offs1 es n k a)[t]? = some (offK es k t + (if a = t then 1 else 0)) := by
  unfold offs1
  rw [List.getElem?_set]
  by_cases e : a = t
  · subst e; simp [offs_len, ht]
  · simp [e, offs_get es n k t ht]
theorem offs_succ {es : List (Int × Int)} {n k : Nat} (hk : k < es.length) {a b : Nat} (he : es.getD k (0, 0) = ((a : Int), (b : Int))) : (offs1 es n k a).set b (offK es k b + (if a = b then 1 else 0) - 1) = offs es n (k + 1) := by
  refine List.ext_getElem? fun t => ?_
  by_cases ht : t < n
  · rw [offs_get es n (k + 1) t ht, offK_succ hk he, List.getElem?_set]
    by_cases e : b = t
    · subst e
      simp only [offs1, List.length_set, offs_len, ht, if_true, Int.natCast_inj]
    · rw [if_neg e, offs1_get es n k a t ht]
      simp only [Int.natCast_inj, if_neg e, Int.sub_zero]
  · rw [List.getElem?_eq_none (by simp [offs1, offs_len]; omega), List.getElem?_eq_none (by simp [offs_len]; omega)]

/-- What Off tells. -/
def OffPost (n : Int) (es : List (Int × Int)) (B : Nat) (e : Ending) (w' : World) : Prop :=
  (ok n es ∧ ∃ g, e = .returned (.tuple #[.slice (some ⟨g, 0, none⟩) n.toNat n.toNat, .nilIface]) ∧ w'.ownsRow B 3 1 (.slice (some ⟨g, 0, none⟩) n.toNat n.toNat) n.toNat ((offs es n.toNat es.length).map (Value.int .i64))) ∨
  (¬ ok n es ∧ e = .returned (.tuple #[.slice none 0 0, .iface 24 (.int .i64 (efault n es))]))

theorem made_ints (n : Nat) : (madeCells #[Value.int .i64 0] n).toList = (List.replicate n (0 : Int)).map (Value.int .i64) := by
  rw [toList_madeCells_one]; simp

set_option maxHeartbeats 400000 in
theorem off_any (n : Int) (es : List (Int × Int)) (lo : Option Addr) (lc : Nat) (W : World) (hx : PairsAt W lo es) (hl : es.length ≤ maxLen) :
    Calls Tryd.prog 8 #[.int .i64 n, .slice lo es.length lc] W fun e w' => OffPost n es W.heap.size e w' ∧ Below W.heap.size W w' := by
  have HCK := Lib.hid (check_any n es lo lc W hx hl)
  have HX := Lib.hid hx
  clear hx
  by_cases hok : ok n es
  · obtain ⟨N, rfl⟩ := Int.eq_ofNat_of_zero_le (show 0 ≤ n by have := hok.1; omega)
    have hn1 := hok.1
    have hn12 := hok.2.1
    have hl30 := hok.2.2.1
    have HES := Lib.hid hok.2.2.2
    have HOK := Lib.hid hok
    have hmk := run_make_row' (P := Tryd.prog) 26 3 (.int .i64 0) 8 Tryd.underlying26 info3 rfl .i64 .i64 N (by omega) (by omega)
    clear hok
    go_enter Tryd.func8, Tryd.ntmps8
    go_wp2_with fail
    refine HCK.out.mono ?_
    rintro e w1 ⟨hp, hb1⟩
    rcases hp with ⟨_, rfl⟩ | ⟨h, _⟩
    · have hown : (w1.alloc (.cells (madeCells #[Value.int .i64 0] N) 3)).ownsRow w1.heap.size 3 1 (.slice (some ⟨w1.heap.size, 0, none⟩) N N) N ((offs es N 0).map (Value.int .i64)) := by
        have := World.ownsRow_lit (base := w1.heap.size) (e := 3) (size := 1) w1 (madeCells #[Value.int .i64 0] N) N (Nat.le_refl _) (by unfold maxLen; omega) (by rw [← Array.length_toList, made_ints]; simp)
        rw [made_ints] at this
        rw [offs_zero]
        exact this
      have HO1 := Lib.hid (owns_mono hown hb1.size)
      have HB1 := Lib.hid (hb1.alloc hb1.size (.cells (madeCells #[Value.int .i64 0] N) 3))
      have HS1 := Lib.hid hb1.size
      clear hown hb1
      go_wp2_with fail
      go_loopw [20] (fun t wr => ∃ k : Nat, t = .int .i64 k ∧ k ≤ es.length ∧ wr.ownsRow W.heap.size 3 1 (.slice (some ⟨w1.heap.size, 0, none⟩) N N) N ((offs es N k).map (Value.int .i64)) ∧ Below W.heap.size W wr) (fun t _ => es.length - (intOf t).toNat)
      case atStart => exact ⟨0, rfl, by omega, HO1.out, HB1.out⟩
      case round =>
        obtain ⟨k, rfl, hk, ho, hb⟩ := hrel
        clear hmk
        by_cases hlt : k < es.length
        · obtain ⟨b0, o0, rfl, hc1, hc2⟩ := HX.out.below (Nat.le_refl _) hb k hlt
          have hmem : es.getD k (0, 0) ∈ es := by simp [hlt]
          obtain ⟨q1, q2, q3, q4⟩ := HES.out _ hmem
          obtain ⟨⟨x, y⟩, hxy⟩ : ∃ e, e = es.getD k (0, 0) := ⟨_, rfl⟩
          rw [← hxy] at hc1 hc2 q1 q2 q3 q4
          obtain ⟨a, rfl⟩ := Int.eq_ofNat_of_zero_le q1
          obtain ⟨b, rfl⟩ := Int.eq_ofNat_of_zero_le q3
          simp only at hc1 hc2 q2 q4
          have han : a < N := by simpa using q2
          have hbn : b < N := by simpa using q4
          have hsucc := offs_succ (n := N) hlt hxy.symm
          have hba := offK_bound es k a
          have hbb := offK_bound es k b
          obtain ⟨u, hu⟩ : ∃ u, u = offK es k a := ⟨_, rfl⟩
          have hca : wr.cell? ⟨w1.heap.size, a, none⟩ = some (.int .i64 u) := by rw [ho.cellAt a (by omega), List.getElem?_map, offs_get es N k a han, ← hu]; rfl
          have s1 := ho.stored a (.int .i64 (u + 1))
          have hs1 : ((offs es N k).map (Value.int .i64)).set a (.int .i64 (u + 1)) = (offs1 es N k a).map (Value.int .i64) := by rw [← List.map_set, hu]; rfl
          rw [hs1] at s1
          obtain ⟨t, ht⟩ : ∃ t, t = offK es k b + (if a = b then 1 else 0) := ⟨_, rfl⟩
          have hcb : (wr.setCell ⟨w1.heap.size, a, none⟩ (.int .i64 (u + 1))).cell? ⟨w1.heap.size, b, none⟩ = some (.int .i64 t) := by rw [s1.1.cellAt b (by omega), List.getElem?_map, offs1_get es N k a b hbn, ← ht]; rfl
          have s2 := s1.1.stored b (.int .i64 (t - 1))
          rw [← List.map_set, ht, hsucc] at s2
          have hbt : -31 ≤ t ∧ t ≤ 31 := by rw [ht]; split <;> omega
          have hlt2 := (ho.lt w1.heap.size rfl).2
          have hfa := ho.frozenAt a
          have hfb := s1.1.frozenAt b
          have hrow : ∀ k, some w1.heap.size = some k → W.heap.size ≤ k := fun k hk => by have := HS1.out; simp at hk; omega
          have hb2 := ((hb.grown s1.2 hb.size hrow).grown s2.2 (by simpa using hb.size) hrow).alloc (by simpa using hb.size) (.cells #[.int .i64 a, .int .i64 b] 36)
          rw [← ht] at hb2 s2
          rw [← hu] at hba
          have HO2 := Lib.hid (s2.1.alloc (.cells #[.int .i64 a, .int .i64 b] 36))
          have HB2 := Lib.hid hb2
          clear hxy hsucc hbb hu s1 hs1 ht s2 hrow hb2 ho hb q1 q3 hmem
          go_wp2_with fail
          go_roundw
          case rel => exact ⟨k + 1, by go_num, by omega, HO2.out, HB2.out⟩
          case measure => simp [intOf]; omega
        · have hke : k = es.length := by omega
          subst hke
          go_wp2_with fail
          go_ret2
          exact ⟨.inl ⟨HOK.out, _, rfl, by simpa using ho⟩, hb⟩
    · exact absurd HOK.out h
  · have HOK := Lib.hid hok
    clear hok
    go_enter Tryd.func8, Tryd.ntmps8
    go_wp2_with fail
    refine HCK.out.mono ?_
    rintro e w1 ⟨hp, hb1⟩
    rcases hp with ⟨h, _⟩ | ⟨_, rfl⟩
    · exact absurd h HOK.out
    · go_wp2_with fail
      go_ret2
      exact ⟨.inr ⟨HOK.out, rfl⟩, hb1⟩
end Go.Proofs.YtnbnfgljbhidbaaDoor
