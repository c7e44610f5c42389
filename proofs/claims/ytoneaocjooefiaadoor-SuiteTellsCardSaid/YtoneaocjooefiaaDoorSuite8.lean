/- assayerref2.So, Passed, Ones, PlacesOf; assayerlaw4.lines, suited. CONDITION (suited alone): math/bits.deBruijn64tab holds what start-up lays there. -/
import Derived.Test.YtoneaocjooefiaaDoorSuite7
import Derived.Test.YtoneaocjooefiaaDoorSInts
namespace Go.Proofs.YtoneaocjooefiaaDoor
open Go.RowKit Go.Mine Go.Mine.Suite

theorem so_eq (t i : Nat) : ((((t : Nat) : Int) / 2 ^ i).tmod 2 == 1) = t.testBit i := by
  have h : (((t : Nat) : Int) / 2 ^ i) = ((t / 2 ^ i : Nat) : Int) := by rw [Int.natCast_ediv, Int.natCast_pow]; rfl
  rw [h, show (2 : Int) = ((2 : Nat) : Int) from rfl, ← Int.ofNat_tmod, Nat.testBit_eq_decide_div_mod_eq, Bool.eq_iff_iff, beq_iff_eq, decide_eq_true_eq]
  omega
theorem so2_any (t i : Nat) (_ht : t < 4294967296) (hi : i < 32) (w : World) : Calls Tryd.prog 24 #[.int .i64 t, .int .i64 i] w fun e w' => e = .returned (.bool (t.testBit i)) ∧ w = w' := by
  have hs := so_eq t i
  go_enter Tryd.func24, Tryd.ntmps24
  go_wp2_with fail
  go_ret
  exact ⟨by simp, rfl⟩

/-- The lines that the first k tests pass, of those whose bits are set. -/
def passN (ts : List Nat) (w : Nat) : Nat → Nat
  | 0 => 0
  | k + 1 => if w.testBit k = true then passN ts w k ||| ts.getD k 0 else passN ts w k
theorem passN_lt {ts : List Nat} (h : ∀ t ∈ ts, t < 4294967296) (w : Nat) : ∀ k, passN ts w k < 4294967296
  | 0 => by simp [passN]
  | k + 1 => by
    rw [passN]
    split
    · exact Nat.or_lt_two_pow (n := 32) (passN_lt h w k) (get_lt h k)
    · exact passN_lt h w k
def places (v : Nat) : List Nat := (List.range 32).filter fun i => v.testBit i
theorem places_rise (v : Nat) : (places v).Pairwise (· < ·) := List.pairwise_lt_range.filter _
theorem passN_bit (ts : List Nat) (w j : Nat) : ∀ k, (passN ts w k).testBit j = (List.range k).any fun i => w.testBit i && (ts.getD i 0).testBit j
  | 0 => by simp [passN]
  | k + 1 => by
    rw [passN, List.range_succ, List.any_append, ← passN_bit ts w j k]
    split
    · rename_i h; rw [Nat.testBit_or]; simp [h]
    · rename_i h; simp [h]
theorem passN_at {ts : List Nat} {w : Nat} (hl : ts.length ≤ 32) : passN ts w ts.length = orAt ts (places (w % 2 ^ ts.length)) := by
  refine Nat.eq_of_testBit_eq fun j => ?_
  rw [passN_bit, orAt_bit, Bool.eq_iff_iff, List.any_eq_true, List.any_eq_true]
  constructor
  · rintro ⟨i, hi, h⟩
    have hi := List.mem_range.1 hi
    rw [Bool.and_eq_true] at h
    exact ⟨i, List.mem_filter.2 ⟨List.mem_range.2 (by omega), by rw [Nat.testBit_mod_two_pow, decide_eq_true hi, h.1]; rfl⟩, h.2⟩
  · rintro ⟨i, hi, h⟩
    obtain ⟨h1, h2⟩ := List.mem_filter.1 hi
    rw [Nat.testBit_mod_two_pow, Bool.and_eq_true, decide_eq_true_eq] at h2
    exact ⟨i, List.mem_range.2 h2.1, by rw [h2.2, h]; rfl⟩
theorem places_lt {w n : Nat} : ∀ i ∈ places (w % 2 ^ n), i < n := fun i hi => by
  obtain ⟨h1, h2⟩ := List.mem_filter.1 hi
  rw [Nat.testBit_mod_two_pow, Bool.and_eq_true, decide_eq_true_eq] at h2
  exact h2.1

set_option maxHeartbeats 1000000 in
theorem qpassed_any (ts : List Nat) (v : Nat) (hv : v < 4294967296) (ao : Option Addr) (c : Nat) (W : World) (hx : IntsAt .u32 W ao (cast ts)) (h32 : ∀ t ∈ ts, t < 4294967296) (hl : ts.length ≤ 12) :
    Calls Tryd.prog 10 #[.slice ao ts.length c, .int .i64 v] W fun e w' => e = .returned (.int .u32 (passN ts v ts.length)) ∧ W = w' := by
  have HX := Lib.hid hx
  have H32 := Lib.hid h32
  clear hx h32
  go_enter Tryd.func10, Tryd.ntmps10
  go_wp2_with fail
  go_loop [5, 6] (fun ov kv => ∃ k o : Nat, kv = .int .i64 k ∧ ov = .int .u32 o ∧ k ≤ ts.length ∧ o < 4294967296 ∧ RowKit.Hid (o = passN ts v k)) (fun _ kv => ts.length - (intOf kv).toNat)
  case atStart => exact ⟨0, 0, rfl, rfl, by omega, by omega, Lib.hid rfl⟩
  case round =>
    obtain ⟨k, o, rfl, rfl, hk, ho, hok⟩ := hrel
    by_cases hlt : k < ts.length
    · obtain ⟨b, ob, rfl, hc⟩ := HX.out k (by rw [cast_len]; exact hlt)
      rw [cast_get] at hc
      have HSO := Lib.hid (so2_any v k hv (by omega) W)
      have ht := get_lt H32.out k
      have hor := u32_or_nat o (ts.getD k 0) ho ht
      have HS := Lib.hid (show passN ts v (k + 1) = if v.testBit k = true then passN ts v k ||| ts.getD k 0 else passN ts v k from rfl)
      have ho' : o ||| ts.getD k 0 < 4294967296 := Nat.or_lt_two_pow (n := 32) ho ht
      obtain ⟨vb, hvb⟩ : ∃ vb, v.testBit k = vb := ⟨_, rfl⟩
      rw [hvb] at HSO HS
      rw [← hok.out] at HS
      obtain ⟨t, ht1⟩ : ∃ t, t = ts.getD k 0 := ⟨_, rfl⟩
      rw [← ht1] at hc ht hor HS ho'
      obtain ⟨o', ho1⟩ : ∃ o', o' = o ||| t := ⟨_, rfl⟩
      rw [← ho1] at hor ho' HS
      clear ht1 ho1 hvb hok
      cases vb
      · go_wp2_with (go_at_call 24; refine HSO.out.mono ?_; rintro e w' ⟨rfl, rfl⟩)
        go_round
        case rel => exact ⟨k + 1, o, by go_num, rfl, by omega, ho, Lib.hid (by rw [HS.out]; rfl)⟩
        case measure => simp [intOf]; omega
      · go_wp2_with (go_at_call 24; refine HSO.out.mono ?_; rintro e w' ⟨rfl, rfl⟩)
        go_round
        case rel => exact ⟨k + 1, o', by go_num, rfl, by omega, ho', Lib.hid (by rw [HS.out]; rfl)⟩
        case measure => simp [intOf]; omega
    · obtain rfl : k = ts.length := by omega
      go_wp2_with fail
      go_ret
      exact ⟨by rw [← hok.out]; rfl, rfl⟩

theorem lines_take {ts b : List Nat} {k : Nat} (h : k < b.length) : orAt ts (b.take (k + 1)) = orAt ts (b.take k) ||| ts.getD (b.getD k 0) 0 := by
  unfold orAt
  rw [List.take_succ_eq_append_getElem h, List.map_append, orAll_append]
  simp [orAll, h]
theorem orAt_lt {ts : List Nat} (h : ∀ t ∈ ts, t < 4294967296) (l : List Nat) : orAt ts l < 4294967296 := orAll_lt fun t ht => by
  obtain ⟨i, _, rfl⟩ := List.mem_map.1 ht
  exact get_lt h i
set_option maxHeartbeats 1000000 in
theorem lines_any (ts b : List Nat) (ao bo : Option Addr) (c bc : Nat) (W : World) (hx : IntsAt .u32 W ao (cast ts)) (hb : IntsAt .i64 W bo (cast b)) (h32 : ∀ t ∈ ts, t < 4294967296) (_hl : ts.length ≤ 12) (hbl : b.length ≤ 64) (hin : ∀ i ∈ b, i < ts.length) :
    Calls Tryd.prog 11 #[.slice ao ts.length c, .slice bo b.length bc] W fun e w' => e = .returned (.tuple #[.int .u32 (orAt ts b), .bool true]) ∧ W = w' := by
  have HX := Lib.hid hx
  have HBX := Lib.hid hb
  have H32 := Lib.hid h32
  have HIN := Lib.hid hin
  clear hx hb h32 hin
  go_enter Tryd.func11, Tryd.ntmps11
  go_wp2_with fail
  go_loop [6, 7] (fun ov kv => ∃ k o : Nat, kv = .int .i64 k ∧ ov = .int .u32 o ∧ k ≤ b.length ∧ o < 4294967296 ∧ RowKit.Hid (o = orAt ts (b.take k))) (fun _ kv => b.length - (intOf kv).toNat)
  case atStart => exact ⟨0, 0, rfl, rfl, by omega, by omega, Lib.hid (by simp [orAt, orAll])⟩
  case round =>
    obtain ⟨k, o, rfl, rfl, hk, ho, hok⟩ := hrel
    by_cases hlt : k < b.length
    · obtain ⟨b1, o1, rfl, hc1⟩ := HBX.out k (by rw [cast_len]; exact hlt)
      rw [cast_get] at hc1
      have hbk := HIN.out (b.getD k 0) (by simp [hlt])
      obtain ⟨b2, o2, rfl, hc2⟩ := HX.out (b.getD k 0) (by rw [cast_len]; exact hbk)
      rw [cast_get] at hc2
      have ht := get_lt H32.out (b.getD k 0)
      have hor := u32_or_nat o (ts.getD (b.getD k 0) 0) ho ht
      have HS := Lib.hid (lines_take (ts := ts) hlt)
      have ho' : o ||| ts.getD (b.getD k 0) 0 < 4294967296 := Nat.or_lt_two_pow (n := 32) ho ht
      rw [← hok.out] at HS
      obtain ⟨t, ht1⟩ : ∃ t, t = ts.getD (b.getD k 0) 0 := ⟨_, rfl⟩
      rw [← ht1] at hc2 ht hor HS ho'
      obtain ⟨j, hj⟩ : ∃ j, j = b.getD k 0 := ⟨_, rfl⟩
      rw [← hj] at hc1 hbk hc2
      obtain ⟨o', ho1⟩ : ∃ o', o' = o ||| t := ⟨_, rfl⟩
      rw [← ho1] at hor ho' HS
      clear ht1 hj ho1 hok
      have hd1 : decide ((j : Int) < 0) = false := by rw [decide_eq_false_iff_not]; omega
      have hd2 : decide (ts.length ≤ j) = false := by rw [decide_eq_false_iff_not]; omega
      go_wp2_with fail
      go_round
      case rel => exact ⟨k + 1, o', by go_num, rfl, by omega, ho', Lib.hid HS.out.symm⟩
      case measure => simp [intOf]; omega
    · obtain rfl : k = b.length := by omega
      have ho2 := hok.out
      rw [List.take_of_length_le (Nat.le_refl _)] at ho2
      have HO := Lib.hid ho2
      clear ho2 hok
      go_wp2_with fail
      go_ret2
      exact ⟨by rw [← HO.out]; rfl, rfl⟩

set_option maxHeartbeats 1000000 in
set_option maxRecDepth 100000 in
theorem suited_any (W : World) (hT : Tab W) : Calls Tryd.prog 7 #[] W fun e w' => e = .returned (.bool true) ∧ Below W.heap.size W w' := by
  have hts : ∀ t ∈ [1, 2, 3], t < 4294967296 := by intro t ht; simp at ht; omega
  obtain ⟨w0, hw0⟩ : ∃ w0, w0 = W.alloc (.cells #[.int .u32 1, .int .u32 2, .int .u32 3] 29) := ⟨_, rfl⟩
  have hb0 : Below W.heap.size W w0 := by rw [hw0]; exact (Below.refl _ _).alloc (Nat.le_refl _) _
  have hx0 : IntsAt .u32 w0 (some ⟨W.heap.size, 0, none⟩) (cast [1, 2, 3]) := by
    intro j hj
    rw [cast_len] at hj
    refine ⟨_, 0, rfl, ?_⟩
    rw [hw0]
    match j, hj with
    | 0, _ => simp [go_sem, cast]
    | 1, _ => simp [go_sem, cast]
    | 2, _ => simp [go_sem, cast]
  have HL := Lib.hid (least_any 2 [1, 2, 3] (some ⟨W.heap.size, 0, none⟩) 3 w0 hx0 hts (by simp [maxLen]) (hT.on hb0))
  have HB0 := Lib.hid hb0
  have HW0 := Lib.hid hw0
  have hfew : ∀ b, Fewest [1, 2, 3] b → b = [2] := fun b hb => by
    refine hb.unique ⟨by simp, by simp, ?_, fun c h1 h2 h3 => ?_⟩
    · intro i hi
      have e1 : orAll [1, 2, 3] = 3 := by decide
      have e2 : orAt [1, 2, 3] [2] = 3 := by decide
      rw [e1] at hi; rw [e2]; exact hi
    · cases c with
      | nil =>
        have h := h3 0 (by decide)
        rw [orAt_bit] at h
        simp at h
      | cons a r2 =>
        refine ⟨by simp, fun hl => ?_⟩
        have has : r2 = [] := List.eq_nil_of_length_eq_zero (by simpa using hl.symm)
        subst has
        have ha := h2 a (by simp)
        have h0 := h3 0 (by decide)
        have h1' := h3 1 (by decide)
        simp only [orAt_bit, List.any_cons, List.any_nil, Bool.or_false] at h0 h1'
        match a, ha with
        | 0, _ => exact absurd h1' (by decide)
        | 1, _ => exact absurd h0 (by decide)
        | 2, _ => exact lexLe_refl _
  have HF := Lib.hid hfew
  have HSOK := Lib.hid (show sok 2 [1, 2, 3] from ⟨by omega, by omega, by simp, fun t ht => by
    simp at ht
    show t < 4
    omega⟩)
  clear hfew hx0 hb0 hw0 hts hT
  go_enter Tryd.func7, Tryd.ntmps7
  go_wp2_with fail
  rw [← HW0.out]
  refine HL.out.mono ?_
  clear HL
  rintro e w1 ⟨hp, hb1⟩
  have HB1 := Lib.hid (HB0.out.trans (hb1.mono HB0.out.size))
  clear hb1
  rcases hp with ⟨hno, _⟩ | ⟨_, v, b, rfl, hf, v', rfl, how⟩
  · exact absurd HSOK.out hno
  · obtain rfl := HF.out b hf
    obtain ⟨bo, bc, rfl⟩ := owns_shape how
    have hi := IntsAt.of_owns how
    have hs1 := HB1.out.size
    have HI := Lib.hid (show IntsAt .i64 (w1.alloc (.cells #[.int .i64 2] 3)) bo (cast [2]) from hi.below (Nat.le_refl _) ((Below.refl _ _).alloc (Nat.le_refl _) _))
    have HT2 := Lib.hid (show IntsAt .i64 (w1.alloc (.cells #[.int .i64 2] 3)) (some ⟨w1.heap.size, 0, none⟩) [2] from fun j hj => by
      obtain rfl : j = 0 := by simpa using hj
      exact ⟨_, 0, rfl, by simp [go_sem]⟩)
    have HIN := Lib.hid (Ints_any (cast [2]) [2] bo (some ⟨w1.heap.size, 0, none⟩) bc 1 _ HI.out HT2.out (by simp [cast, maxLen]))
    have HB2 := Lib.hid (HB1.out.alloc hs1 (.cells #[.int .i64 2] 3))
    clear how hi
    rw [show (cast [2]).length = 1 from rfl] at HIN ⊢
    go_wp2_with fail
    refine HIN.out.mono ?_
    rintro e w2 ⟨rfl, q, rfl⟩
    rw [show decide (cast [2] = [2]) = true from rfl]
    go_wp2_with fail
    go_ret
    exact ⟨rfl, below_drewN HB2.out q⟩
end Go.Proofs.YtoneaocjooefiaaDoor
