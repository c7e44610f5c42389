/- spect.Order. No conditions. -/
import Derived.Test.YthfiecakmlpdiaaDoorSpect3
import Derived.Test.YthfiecakmlpdiaaDoorStab5
namespace Go.Proofs.YthfiecakmlpdiaaDoor
open Go.RowKit Go.Mine Go.Mine.Suite Go.Mine.Spec Go.Mine.Stab

/-- Who stands ahead: more blame, or as much and the lesser line. -/
def LO (ts : List Nat) (fs : List Bool) (x y : Nat) : Prop := bl ts fs y * bt ts fs x < bl ts fs x * bt ts fs y ∨ (bl ts fs y * bt ts fs x = bl ts fs x * bt ts fs y ∧ x < y)
theorem bt_pos (ts : List Nat) (fs : List Bool) (x : Nat) : 0 < bt ts fs x := by unfold bt top1; split <;> omega
theorem LO_ord (ts : List Nat) (fs : List Bool) : Ord (LO ts fs) := by
  refine ⟨fun x y h k => ?_, fun x y z h k => ?_, fun x y h => ?_⟩
  · unfold LO at h k
    omega
  · have tx := bt_pos ts fs x
    have ty := bt_pos ts fs y
    have tz := bt_pos ts fs z
    have h1 : bl ts fs y * bt ts fs x ≤ bl ts fs x * bt ts fs y := by rcases h with h | h <;> omega
    have k1 : bl ts fs z * bt ts fs y ≤ bl ts fs y * bt ts fs z := by rcases k with k | k <;> omega
    have e1 : bl ts fs z * bt ts fs x * bt ts fs y = (bl ts fs z * bt ts fs y) * bt ts fs x := by rw [Nat.mul_assoc, Nat.mul_comm (bt ts fs x), ← Nat.mul_assoc]
    have e2 : (bl ts fs y * bt ts fs z) * bt ts fs x = (bl ts fs y * bt ts fs x) * bt ts fs z := by rw [Nat.mul_assoc, Nat.mul_comm (bt ts fs z), ← Nat.mul_assoc]
    have e3 : (bl ts fs x * bt ts fs y) * bt ts fs z = bl ts fs x * bt ts fs z * bt ts fs y := by rw [Nat.mul_assoc, Nat.mul_comm (bt ts fs y), ← Nat.mul_assoc]
    have l1 : (bl ts fs z * bt ts fs y) * bt ts fs x ≤ (bl ts fs y * bt ts fs z) * bt ts fs x := Nat.mul_le_mul_right _ k1
    have l2 : (bl ts fs y * bt ts fs x) * bt ts fs z ≤ (bl ts fs x * bt ts fs y) * bt ts fs z := Nat.mul_le_mul_right _ h1
    by_cases hs : bl ts fs y * bt ts fs x < bl ts fs x * bt ts fs y ∨ bl ts fs z * bt ts fs y < bl ts fs y * bt ts fs z
    · left
      have : bl ts fs z * bt ts fs x * bt ts fs y < bl ts fs x * bt ts fs z * bt ts fs y := by
        rcases hs with hs | hs
        · have := Nat.mul_lt_mul_of_pos_right hs tz
          omega
        · have := Nat.mul_lt_mul_of_pos_right hs tx
          omega
      exact Nat.lt_of_mul_lt_mul_right this
    · have hx : x < y := by rcases h with h | h <;> omega
      have hy : y < z := by rcases k with k | k <;> omega
      have he1 : bl ts fs y * bt ts fs x = bl ts fs x * bt ts fs y := by omega
      have he2 : bl ts fs z * bt ts fs y = bl ts fs y * bt ts fs z := by omega
      right
      refine ⟨?_, by omega⟩
      rw [he2] at e1
      rw [he1] at e2
      have : bl ts fs z * bt ts fs x * bt ts fs y = bl ts fs x * bt ts fs z * bt ts fs y := by rw [e1, e2, e3]
      exact Nat.eq_of_mul_eq_mul_right ty this
  · unfold LO
    omega
theorem cmpO_lt (ts : List Nat) (fs : List Bool) (x y : Nat) (h : x < y) : cmpO ts fs y x < 0 ↔ LO ts fs y x := by
  unfold cmpO cmpI LO
  constructor
  · intro hh
    split at hh
    · rename_i k; left; exact_mod_cast k
    · split at hh <;> omega
  · intro hh
    rcases hh with hh | hh
    · rw [if_pos (by exact_mod_cast hh)]; decide
    · omega
/-- What Order tells. -/
def POrder (n : Int) (ts : List Nat) (fs : List Bool) (e : Ending) (w' : World) : Prop :=
  (pok n ts fs ∧ ∃ (ao : Option Addr) (cap : Nat) (d : Nat → Nat), e = .returned (.tuple #[.slice ao n.toNat cap, .nilIface]) ∧ IntsAt .i64 w' ao ((List.range n.toNat).map fun p => ((d p : Nat) : Int)) ∧ Vals d n.toNat ∧ SortedR (LO ts fs) d 0 n.toNat) ∨
  (¬ pok n ts fs ∧ ∃ c : Int, e = .returned (.tuple #[.slice none 0 0, .iface 25 (.int .i64 c)]) ∧ (sok n ts → c = 3) ∧ (¬ sok n ts → c = sfault n ts))
theorem o1_enters (v u : Value) (lb : Array Value) (w : World) : Sem.run Tryd.prog (callFunc 17 (#[v, u] ++ lb)) w = .ok (.enter 17 (#[v, u] ++ lb)) w := by kernel_rfl
theorem insertion_nil (v : Value) (w : World) : Calls Tryd.prog 27 #[.slice none 0 0, .int .i64 0, .int .i64 0, v] w fun e w' => e = .returned (.tuple #[]) ∧ w = w' := by
  go_enter Tryd.func27, Tryd.ntmps27
  go_wp2_with fail
  go_loop [8] (fun iv => iv = .int .i64 1) (fun _ => 0)
  case atStart => rfl
  case round =>
    obtain rfl := hrel
    go_wp2_with fail
    go_end0
    exact ⟨rfl, rfl⟩
theorem stable_nil (v : Value) (w : World) : Calls Tryd.prog 21 #[.slice none 0 0, .int .i64 0, v] w fun e w' => e = .returned (.tuple #[]) ∧ w = w' := by
  have H := insertion_nil v
  go_enter Tryd.func21, Tryd.ntmps21
  go_wp2_with fail
  go_loop [7, 8] (fun av bv => av = .int .i64 0 ∧ bv = .int .i64 20) (fun _ _ => 0)
  case atStart => exact ⟨rfl, rfl⟩
  case round =>
    obtain ⟨rfl, rfl⟩ := hrel
    go_wp2_with fail
    refine (H w).mono ?_
    rintro e w1 ⟨rfl, rfl⟩
    go_wp2_with fail
    go_loop [6] (fun sv => sv = .int .i64 20) (fun _ => 0)
    case atStart => rfl
    case round =>
      obtain rfl := hrel
      go_wp2_with fail
      go_end0
      exact ⟨rfl, rfl⟩
theorem sortStable_nil (v : Value) (w : World) : Calls Tryd.prog 16 #[.slice none 0 0, v] w fun e w' => e = .returned (.tuple #[]) ∧ w = w' := by
  have H := stable_nil v w
  go_enter Tryd.func16, Tryd.ntmps16
  go_wp2_with fail
  refine H.mono ?_
  rintro e w1 ⟨rfl, rfl⟩
  go_wp2_with fail
  go_end0
  exact ⟨rfl, rfl⟩
theorem infoI1 : (Tryd.prog.info? 3).map (fun i => (i.zero, i.size, i.bytes)) = some (some (.int .i64 0), 1, 8) := by kernel_rfl
theorem rowC_id_succ (k : Nat) : rowC id k ++ [.int .i64 (k : Int)] = rowC id (k + 1) := by simp [rowC, List.range_succ]
set_option maxHeartbeats 2000000 in
set_option maxRecDepth 100000 in
theorem order_any (n : Int) (ts : List Nat) (fs : List Bool) (ao fo : Option Addr) (c d : Nat) (W : World) (hx : IntsAt .u32 W ao (cast ts)) (h32 : ∀ t ∈ ts, t < 4294967296) (hl : ts.length ≤ maxLen) (hf : BoolsAt W fo fs) (hfl : fs.length ≤ maxLen) :
    Calls Tryd.prog 12 #[.int .i64 n, .slice ao ts.length c, .slice fo fs.length d] W fun e w' => POrder n ts fs e w' ∧ Below W.heap.size W w' := by
  obtain ⟨i0, hi0, hz0, hz1, hz2⟩ := info_parts infoI1
  have HC := Lib.hid (counts_any n ts fs ao fo c d W hx h32 hl hf hfl)
  unfold maxLen at hl hfl
  clear hx hf h32
  go_enter Tryd.func12, Tryd.ntmps12
  go_wp2_with fail
  go_fit HC.out
  clear HC
  rintro e w1 ⟨⟨hs, a1, c1, rfl, hf1⟩ | ⟨hs, q, rfl, hq⟩, hb1⟩
  rotate_left
  · have HS := Lib.hid hs
    have HQ := Lib.hid hq
    have HB := Lib.hid (show Below W.heap.size W (w1.alloc (.cells #[.slice none 0 0] 31)) from hb1.alloc hb1.size _)
    clear hs hq hb1
    go_wp2_with fail
    go_ret2
    exact ⟨.inr ⟨HS.out, q, rfl, HQ.out⟩, HB.out⟩
  obtain ⟨N, rfl⟩ := Int.eq_ofNat_of_zero_le hs.1.1
  have hN : N ≤ 32 := by have := hs.1.2.1; omega
  have ht12 : ts.length ≤ 12 := hs.1.2.2.1
  have HS := Lib.hid hs
  have HF1 := Lib.hid hf1
  have HB1 := Lib.hid hb1
  rw [show ((N : Int)).toNat = N from rfl]
  rw [show ((N : Int)).toNat = N from rfl] at HF1
  clear hs hf1 hb1
  obtain ⟨w2, hw2⟩ : ∃ w2, w2 = w1.alloc (.cells #[.slice a1 N c1] 31) := ⟨_, rfl⟩
  have hb2 : Below W.heap.size W w2 := by rw [hw2]; exact HB1.out.alloc HB1.out.size _
  have hs2 : w2.heap.size = w1.heap.size + 1 := by rw [hw2]; simp
  have hbox : w2.cell? ⟨w1.heap.size, 0, none⟩ = some (.slice a1 N c1) := by
    rw [hw2, cell_of_row _ _ 0 _ _ _ (heap_alloc_new w1 (.cells #[.slice a1 N c1] 31))]; rfl
  have hf2 : FoursAt w2 a1 (rows4 ts fs N) := by rw [hw2]; exact HF1.out.below (Nat.le_refl _) ((Below.refl _ _).alloc (Nat.le_refl _) _)
  have HB2 := Lib.hid hb2
  have HBOX := Lib.hid hbox
  have HF2 := Lib.hid hf2
  have HS2 := Lib.hid (show w1.heap.size < w2.heap.size by omega)
  clear hb2 hbox hf2 hs2
  go_wp2_with fail
  rw [← hw2]
  clear hw2
  go_loopw [10, 24] (fun ov kv wr => ∃ k : Nat, kv = .int .i64 k ∧ k ≤ N ∧ RowKit.Hid (wr.ownsRow w2.heap.size 3 1 ov k (rowC id k) ∧ (k = 0 → ov = .slice none 0 0)) ∧ RowKit.Hid (Below w2.heap.size w2 wr)) (fun _ kv _ => N - (intOf kv).toNat)
  case atStart => exact ⟨0, rfl, by omega, Lib.hid ⟨World.ownsRow_nil _ _ _ _, fun _ => rfl⟩, Lib.hid (Below.refl _ _)⟩
  case round =>
    obtain ⟨k, rfl, hk, ho, hb⟩ := hrel
    have HO := Lib.hid ho.out.1
    have HNIL := Lib.hid ho.out.2
    have HB := Lib.hid hb.out
    have hbs := hb.out.size
    clear ho hb
    by_cases hkN : k < N
    · have HFL := Lib.hid (rowC_id_succ k)
      go_wp2_with (at_builtin; refine wpList_push _ rfl _ _ 32 rfl w2.heap.size 3 i0 (.int .i64 0) 1 8 Tryd.underlying32 hi0 hz0 hz1 hz2 rfl (by decide) _ _ _ rfl (HO.out.alloc _) ⟨wr.heap.size, 0, none⟩ 1 [.int .i64 (k : Int)] rfl rfl (cell_one_new _ _ _) (one1 _ _) (by unfold maxLen; omega) (by omega) (by simp; omega) ?_)
      intro g7 cap w7 ho7 hg7
      have HB7 := Lib.hid ((HB.out.alloc hbs (.cells #[.int .i64 (k : Int)] 3)).grown hg7 (by simp; omega) (fun b hb => (HO.out.lt b hb).1))
      rw [HFL.out] at ho7
      have HO7 := Lib.hid ho7
      clear ho7 hg7
      go_wp2_with fail
      go_roundw
      case rel => exact ⟨k + 1, by go_num, by omega, Lib.hid ⟨HO7.out, fun h => by omega⟩, HB7⟩
      case measure => simp [intOf]; omega
    · obtain rfl : k = N := by omega
      by_cases hk0 : k = 0
      · subst hk0
        have hov := HNIL.out rfl
        subst hov
        have HSN := Lib.hid (fun v => sortStable_nil v wr)
        have HBE := Lib.hid (HB2.out.trans (HB.out.mono HB2.out.size))
        clear HO
        go_wp2_with fail
        refine (HSN.out _).mono ?_
        clear HSN
        rintro e w9 ⟨rfl, rfl⟩
        go_wp2_with fail
        go_ret2
        exact ⟨.inl ⟨HS.out, none, 0, id, rfl, IntsAt.nil _ _ _, ⟨fun p hp => by simp at hp, fun _ _ h => h⟩, fun p q _ _ h => by simp at h⟩, HBE.out⟩
      · obtain ⟨ov, cap, hve⟩ := owns_shape HO.out
        subst hve
        have hown := HO.out
        rcases hown.2 with ⟨hv, h0⟩ | ⟨g, cap', cur, hv, hbg, _⟩
        · exact absurd h0 hk0
        simp only [Value.slice.injEq] at hv
        obtain ⟨rfl, _, rfl⟩ := hv
        have hLies : Lies wr g k cap id := owns_mono HO.out (Nat.zero_le _)
        have HLies := Lib.hid hLies
        have HG : GivesC (LO ts fs) 17 #[.pointer (some ⟨w1.heap.size, 0, none⟩)] wr g k := fun w' hg' y x hxy hyn => by
          have hbx : w'.cell? ⟨w1.heap.size, 0, none⟩ = some (.slice a1 k c1) := hg'.cell ((HB.out.cell (p := ⟨w1.heap.size, 0, none⟩) HS2.out).trans HBOX.out) (by have := HS2.out; simp; omega)
          have hbw : Below w2.heap.size w2 w' := HB.out.grown hg' HB.out.size (fun b hb => by cases hb; exact hbg)
          refine (order1_any ts fs k y x w1.heap.size a1 c1 w' hbx (HF2.out.below (Nat.le_refl _) hbw) ht12 hyn (by omega) hN).mono ?_
          rintro e w'' ⟨rfl, hb''⟩
          exact ⟨⟨_, rfl, cmpO_lt ts fs x y hxy⟩, hb''⟩
        have HSS := Lib.hid (sortStable_any (LO ts fs) (LO_ord ts fs) k g cap id 17 #[.pointer (some ⟨w1.heap.size, 0, none⟩)] wr hLies (by omega) ⟨fun p h => h, fun _ _ h => h⟩ (fun p q _ h _ => h) (fun v u w => o1_enters v u _ w) HG)
        have HBR := Lib.hid (HB2.out.trans (HB.out.mono HB2.out.size))
        have hgW : W.heap.size ≤ g := Nat.le_trans HB2.out.size hbg
        clear hown HG hLies HNIL
        go_wp2_with fail
        go_fit HSS.out
        clear HSS
        rintro e w9 ⟨rfl, ⟨d9, hl9, hm9, hs9⟩, hg9⟩
        have HIA := Lib.hid (show IntsAt .i64 w9 (some ⟨g, 0, none⟩) ((List.range k).map fun p => ((d9 p : Nat) : Int)) from IntsAt.of_owns (by
          have h : w9.ownsRow 0 3 1 (.slice (some ⟨g, 0, none⟩) k cap) k (rowC d9 k) := hl9
          rwa [show rowC d9 k = ((List.range k).map fun p => ((d9 p : Nat) : Int)).map (Value.int .i64) by simp [rowC]] at h))
        have HVS := Lib.hid (show Vals d9 k ∧ SortedR (LO ts fs) d9 0 k from ⟨Vals.mv ⟨fun p h => h, fun _ _ h => h⟩ hm9 (Nat.le_refl _), hs9⟩)
        have HB9 := Lib.hid (HBR.out.grown hg9 HBR.out.size (fun b hb => by cases hb; exact hgW))
        clear hl9 hm9 hs9 hg9
        go_wp2_with fail
        go_ret2
        exact ⟨.inl ⟨HS.out, some ⟨g, 0, none⟩, cap, d9, rfl, HIA.out, HVS.out.1, HVS.out.2⟩, HB9.out⟩
end Go.Proofs.YthfiecakmlpdiaaDoor
