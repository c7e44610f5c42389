/- spect.Check, spect.Counts. No conditions. -/
import Derived.Test.YthfiecakmlpdiaaDoorSuite1
import Derived.Test.YthfiecakmlpdiaaDoorBools
import Derived.Test.YthfiecakmlpdiaaDoorFours
import Derived.Test.YthfiecakmlpdiaaDoorSpecP
namespace Go.Proofs.YthfiecakmlpdiaaDoor
open Go.RowKit Go.Mine Go.Mine.Suite Go.Mine.Spec

def pok (n : Int) (ts : List Nat) (fs : List Bool) : Prop := sok n ts ∧ ts.length = fs.length
/-- What Check answers. -/
def PCheck (n : Int) (ts : List Nat) (fs : List Bool) (e : Ending) : Prop :=
  (pok n ts fs ∧ e = .returned .nilIface) ∨ (¬ pok n ts fs ∧ ∃ c : Int, e = .returned (.iface 25 (.int .i64 c)) ∧ (sok n ts → c = 3) ∧ (¬ sok n ts → c = sfault n ts))
set_option maxHeartbeats 1000000 in
set_option maxRecDepth 100000 in
theorem pcheck_any (n : Int) (ts : List Nat) (fs : List Bool) (ao fo : Option Addr) (c d : Nat) (W : World) (hx : IntsAt .u32 W ao (cast ts)) (h32 : ∀ t ∈ ts, t < 4294967296) (hl : ts.length ≤ maxLen) (hfl : fs.length ≤ maxLen) :
    Calls Tryd.prog 7 #[.int .i64 n, .slice ao ts.length c, .slice fo fs.length d] W fun e w' => PCheck n ts fs e ∧ W = w' := by
  have HC := Lib.hid (scheck_any n ts ao c W hx h32 hl)
  unfold maxLen at hl hfl
  clear hx
  go_enter Tryd.func7, Tryd.ntmps7
  go_wp2_with fail
  refine HC.out.mono ?_
  rintro e w1 ⟨⟨hs, rfl⟩ | ⟨hs, rfl⟩, rfl⟩
  · have HS := Lib.hid hs
    clear hs HC
    by_cases he : ts.length = fs.length
    · have hb : ((ts.length : Int) != (fs.length : Int)) = false := by rw [bne_eq_false_iff_eq]; omega
      have HE := Lib.hid he
      clear he
      go_wp2_with fail
      go_ret
      exact ⟨.inl ⟨⟨HS.out, HE.out⟩, rfl⟩, rfl⟩
    · have hb : ((ts.length : Int) != (fs.length : Int)) = true := by rw [bne_iff_ne]; omega
      have HE := Lib.hid he
      clear he
      go_wp2_with fail
      go_ret
      exact ⟨.inr ⟨fun h => HE.out h.2, 3, rfl, fun _ => rfl, fun h => absurd HS.out h⟩, rfl⟩
  · have HS := Lib.hid hs
    clear hs HC
    go_wp2_with fail
    go_ret
    exact ⟨.inr ⟨fun h => HS.out h.1, _, rfl, fun h => absurd h HS.out, fun _ => rfl⟩, rfl⟩

/-- What Counts answers. -/
def PCounts (n : Int) (ts : List Nat) (fs : List Bool) (e : Ending) (w' : World) : Prop :=
  (pok n ts fs ∧ ∃ ao cap, e = .returned (.tuple #[.slice ao n.toNat cap, .nilIface]) ∧ FoursAt w' ao (rows4 ts fs n.toNat)) ∨
  (¬ pok n ts fs ∧ ∃ c : Int, e = .returned (.tuple #[.slice none 0 0, .iface 25 (.int .i64 c)]) ∧ (sok n ts → c = 3) ∧ (¬ sok n ts → c = sfault n ts))
theorem infoF : (Tryd.prog.info? 33).map (fun i => (i.zero, i.size, i.bytes)) = some (some (.agg #[.int .i64 0, .int .i64 0, .int .i64 0, .int .i64 0]), 4, 32) := by kernel_rfl
theorem bit_one (t x : Nat) (h : t < 4294967296) : (bits BinOp.and IntKind.u32 ((t : Int) / 2 ^ x) 1 == 0) = !t.testBit x := by
  have h1 : ((t : Int) / 2 ^ x) = ((t / 2 ^ x : Nat) : Int) := by rw [Int.natCast_ediv, Int.natCast_pow]; rfl
  have h2 : t / 2 ^ x < 4294967296 := Nat.lt_of_le_of_lt (Nat.div_le_self _ _) h
  have h3 : bits BinOp.and IntKind.u32 ((t / 2 ^ x : Nat) : Int) 1 = ((t / 2 ^ x &&& 1 : Nat) : Int) := by
    have := u32_and_nat (t / 2 ^ x) 1 h2 (by omega)
    simpa using this
  rw [h1, h3, Nat.and_one_is_mod, Nat.testBit_eq_decide_div_mod_eq]
  rcases Nat.mod_two_eq_zero_or_one (t / 2 ^ x) with h | h <;> rw [h] <;> rfl
theorem row4_next (ts : List Nat) (fs : List Bool) (x j : Nat) : (row4 ts fs (j + 1) x).map (Value.int .i64) = ((row4 ts fs j x).map (Value.int .i64)).set (cls ts fs x j) (.int .i64 ((cK ts fs x (cls ts fs x j) j : Nat) + 1 : Int)) := by
  have h := cls_lt ts fs x j
  have : cls ts fs x j = 0 ∨ cls ts fs x j = 1 ∨ cls ts fs x j = 2 ∨ cls ts fs x j = 3 := by omega
  unfold row4
  simp only [cK]
  rcases this with h | h | h | h <;> rw [h] <;> simp
set_option maxHeartbeats 2000000 in
set_option maxRecDepth 100000 in
theorem counts_any (n : Int) (ts : List Nat) (fs : List Bool) (ao fo : Option Addr) (c d : Nat) (W : World) (hx : IntsAt .u32 W ao (cast ts)) (h32 : ∀ t ∈ ts, t < 4294967296) (hl : ts.length ≤ maxLen) (hf : BoolsAt W fo fs) (hfl : fs.length ≤ maxLen) :
    Calls Tryd.prog 10 #[.int .i64 n, .slice ao ts.length c, .slice fo fs.length d] W fun e w' => PCounts n ts fs e w' ∧ Below W.heap.size W w' := by
  obtain ⟨i0, hi0, hz0, hz1, hz2⟩ := info_parts infoF
  have HC := Lib.hid (pcheck_any n ts fs ao fo c d W hx h32 hl hfl)
  have HX := Lib.hid (show ∀ w, Below W.heap.size W w → IntsAt .u32 w ao (cast ts) ∧ BoolsAt w fo fs from fun w hb => ⟨hx.below (Nat.le_refl _) hb, hf.below (Nat.le_refl _) hb⟩)
  have H32 := Lib.hid h32
  unfold maxLen at hl hfl
  clear hx hf h32
  go_enter Tryd.func10, Tryd.ntmps10
  go_wp2_with fail
  refine HC.out.mono ?_
  clear HC
  rintro e w1 ⟨⟨hs, rfl⟩ | ⟨hs, q, rfl, hq⟩, rfl⟩
  rotate_left
  · have HS := Lib.hid hs
    have HQ := Lib.hid hq
    clear hs hq
    go_wp2_with fail
    go_ret2
    exact ⟨.inr ⟨HS.out, q, rfl, HQ.out⟩, Below.refl _ _⟩
  obtain ⟨N, rfl⟩ := Int.eq_ofNat_of_zero_le hs.1.1
  have hN : N ≤ 32 := by have := hs.1.2.1; omega
  have hl12 : ts.length ≤ 12 := hs.1.2.2.1
  have hle : ts.length = fs.length := hs.2
  have HS := Lib.hid hs
  clear hs
  go_wp2_with fail
  go_loopw [9, 23] (fun ov xv wr => ∃ x : Nat, xv = .int .i64 x ∧ x ≤ N ∧ RowKit.Hid (wr.ownsRow W.heap.size 33 4 ov x (flat4 (rows4 ts fs x))) ∧ RowKit.Hid (Below W.heap.size W wr)) (fun _ xv _ => N - (intOf xv).toNat)
  case atStart => exact ⟨0, rfl, by omega, Lib.hid (World.ownsRow_nil _ _ _ _), Lib.hid (Below.refl _ _)⟩
  case round =>
    obtain ⟨x, rfl, hx, ho, hb⟩ := hrel
    have HO := Lib.hid ho.out
    have HB := Lib.hid hb.out
    clear ho hb
    obtain ⟨w2, hw2⟩ : ∃ w2, w2 = wr := ⟨_, rfl⟩
    subst hw2
    have hs2 := HB.out.size
    by_cases hxN : x < N
    · have HL0 := Lib.hid (show (w2.alloc (.cells #[.int .i64 0, .int .i64 0, .int .i64 0, .int .i64 0] 48)).ownsRow w2.heap.size 48 1 (.slice (some ⟨w2.heap.size, 0, none⟩) 4 4) 4 ((row4 ts fs 0 x).map (Value.int .i64)) from owns_laid (cs := #[.int .i64 0, .int .i64 0, .int .i64 0, .int .i64 0]) (heap_alloc_at _ _ rfl) (Nat.le_refl _) rfl (by unfold maxLen; omega))
      go_wp2_with fail
      go_loopw [28] (fun jv wr => ∃ j : Nat, jv = .int .i64 j ∧ j ≤ ts.length ∧ RowKit.Hid (wr.ownsRow w2.heap.size 48 1 (.slice (some ⟨w2.heap.size, 0, none⟩) 4 4) 4 ((row4 ts fs j x).map (Value.int .i64))) ∧ RowKit.Hid (Below w2.heap.size w2 wr)) (fun jv _ => ts.length - (intOf jv).toNat)
      case atStart => exact ⟨0, rfl, by omega, HL0, Lib.hid ((Below.refl _ _).alloc (Nat.le_refl _) _)⟩
      clear HL0
      case round =>
        obtain ⟨j, rfl, hj, hc, hb⟩ := hrel
        have HBJ := Lib.hid hb.out
        have hbW := HB.out.trans (hb.out.mono hs2)
        by_cases hjl : j < ts.length
        · obtain ⟨b, o, hae, hct⟩ := (HX.out wr hbW).1 j (by rw [cast_len]; exact hjl)
          subst hae
          obtain ⟨b2, o2, hfe, hcf⟩ := (HX.out wr hbW).2 j (by omega)
          subst hfe
          rw [cast_get] at hct
          obtain ⟨t, ht⟩ : ∃ t, t = ts.getD j 0 := ⟨_, rfl⟩
          rw [← ht] at hct
          have HT := Lib.hid ht
          have ht32 : t < 4294967296 := by rw [ht]; exact H32.out _ (by simp [hjl])
          obtain ⟨f, hff⟩ : ∃ f, f = fs.getD j false := ⟨_, rfl⟩
          rw [← hff] at hcf
          have HF := Lib.hid hff
          have HCL := Lib.hid (show cls ts fs x j = (if t.testBit x then 0 else 1) + (if f then 0 else 2) by unfold cls; rw [← ht, ← hff])
          have hbit := bit_one t x ht32
          obtain ⟨tb, htb⟩ : ∃ tb, tb = t.testBit x := ⟨_, rfl⟩
          rw [← htb] at hbit HCL
          have HNX := Lib.hid (row4_next ts fs x j)
          have HLE := Lib.hid (cK_le ts fs x (cls ts fs x j) j)
          obtain ⟨k, hk⟩ : ∃ k, k = cls ts fs x j := ⟨_, rfl⟩
          rw [← hk] at HNX HCL HLE
          have hk4 : k < 4 := by rw [hk]; exact cls_lt _ _ _ _
          obtain ⟨y, hy⟩ : ∃ y, y = cK ts fs x k j := ⟨_, rfl⟩
          rw [← hy] at HNX HLE
          have hyj : y ≤ j := HLE.out
          have hcell : wr.cell? ⟨w2.heap.size, k, none⟩ = some (.int .i64 (y : Int)) := by
            rw [hc.out.cellAt k (by omega), hy]
            have h4 : k = 0 ∨ k = 1 ∨ k = 2 ∨ k = 3 := by omega
            rcases h4 with rfl | rfl | rfl | rfl <;> rfl
          have hfz := hc.out.frozenAt k
          have HST := Lib.hid (hc.out.stored k (.int .i64 ((y : Int) + 1))).1
          rw [← HNX.out] at HST
          have HBS := Lib.hid (hb.out.setCell (p := ⟨w2.heap.size, k, none⟩) (Nat.le_refl _) (.int .i64 ((y : Int) + 1)))
          clear ht hff hb hk hy htb HNX HLE hc ht32
          cases tb <;> cases f
          all_goals
            have hk2 := HCL.out
            simp at hk2
            subst hk2
            clear HCL
            go_wp2_with fail
            go_roundw
          all_goals first
            | exact ⟨j + 1, by go_num, by omega, HST, HBS⟩
            | (simp [intOf]; omega)
        · obtain rfl : j = ts.length := by omega
          obtain ⟨a0, h0⟩ : ∃ a0 : Int, a0 = (cK ts fs x 0 ts.length : Nat) := ⟨_, rfl⟩
          obtain ⟨a1, h1⟩ : ∃ a1 : Int, a1 = (cK ts fs x 1 ts.length : Nat) := ⟨_, rfl⟩
          obtain ⟨a2, h2⟩ : ∃ a2 : Int, a2 = (cK ts fs x 2 ts.length : Nat) := ⟨_, rfl⟩
          obtain ⟨a3, h3⟩ : ∃ a3 : Int, a3 = (cK ts fs x 3 ts.length : Nat) := ⟨_, rfl⟩
          have hr4 : row4 ts fs ts.length x = [a0, a1, a2, a3] := by rw [h0, h1, h2, h3]; rfl
          have hco := hc.out
          rw [hr4] at hco
          have hc0 : wr.cell? ⟨w2.heap.size, 0, none⟩ = some (.int .i64 a0) := by rw [hco.cellAt 0 (by omega)]; rfl
          have hc1 : wr.cell? ⟨w2.heap.size, 1, none⟩ = some (.int .i64 a1) := by rw [hco.cellAt 1 (by omega)]; rfl
          have hc2 : wr.cell? ⟨w2.heap.size, 2, none⟩ = some (.int .i64 a2) := by rw [hco.cellAt 2 (by omega)]; rfl
          have hc3 : wr.cell? ⟨w2.heap.size, 3, none⟩ = some (.int .i64 a3) := by rw [hco.cellAt 3 (by omega)]; rfl
          have HFL := Lib.hid (show flat4 (rows4 ts fs x) ++ [.int .i64 a0, .int .i64 a1, .int .i64 a2, .int .i64 a3] = flat4 (rows4 ts fs (x + 1)) by rw [rows4, flat4_append, hr4]; rfl)
          have HO2 := Lib.hid (owns_below HO.out HBJ.out)
          have HBW := Lib.hid hbW
          have hbs := hbW.size
          clear h0 h1 h2 h3 hr4 hco hc hb hbW
          go_wp2_with (at_builtin; refine wpList_push _ rfl _ _ 31 rfl W.heap.size 33 i0 (.agg #[.int .i64 0, .int .i64 0, .int .i64 0, .int .i64 0]) 4 32 Tryd.underlying31 hi0 hz0 hz1 hz2 rfl (by decide) _ _ _ rfl (HO2.out.alloc _) ⟨wr.heap.size, 0, none⟩ 1 [.int .i64 a0, .int .i64 a1, .int .i64 a2, .int .i64 a3] rfl rfl (World.news_of_block (cs := #[.int .i64 a0, .int .i64 a1, .int .i64 a2, .int .i64 a3]) (t := 33) (fr := (0, 0)) (heap_alloc_new wr _)) (by intro u hu; simp at hu; rcases hu with rfl | rfl | rfl | rfl <;> rfl) (by unfold maxLen; omega) (by omega) (by simp; omega) ?_)
          intro g1 cap w5 hv5 hg5
          have HB5 := Lib.hid ((HBW.out.alloc hbs (.cells #[.int .i64 a0, .int .i64 a1, .int .i64 a2, .int .i64 a3] 33)).grown hg5 (by simp; omega) (fun k hk => (HO2.out.lt k hk).1))
          rw [HFL.out] at hv5
          have HV5 := Lib.hid hv5
          clear hv5 hg5
          go_wp2_with fail
          go_roundw
          case rel => exact ⟨x + 1, by go_num, by omega, HV5, HB5⟩
          case measure => simp [intOf]; omega
    · obtain rfl : x = N := by omega
      obtain ⟨ao, cap, hve⟩ := owns_shape HO.out
      subst hve
      have HFA := Lib.hid (FoursAt.of_owns (l := rows4 ts fs x) (fun r hr => by
        obtain ⟨j, hj, rfl⟩ := List.mem_iff_getElem.1 hr
        have h1 := rows4_get ts fs j x (by simpa [rows4_len] using hj)
        simp only [List.getD_eq_getElem?_getD, List.getElem?_eq_getElem hj, Option.getD_some] at h1
        rw [h1]; rfl) HO.out)
      go_wp2_with fail
      go_ret2
      exact ⟨.inl ⟨HS.out, ao, cap, rfl, HFA.out⟩, HB.out⟩
end Go.Proofs.YthfiecakmlpdiaaDoor
