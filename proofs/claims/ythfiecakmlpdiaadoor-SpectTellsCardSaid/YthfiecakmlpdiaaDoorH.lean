/- SpectTells' walk. CONDITION: errors.errorType holds what start-up lays there. -/
import Derived.Test.YthfiecakmlpdiaaDoorSpect8
import Derived.Test.YthfiecakmlpdiaaDoorSpectB
import Derived.Test.YthfiecakmlpdiaaDoorErrIs
import Derived.Test.YthfiecakmlpdiaaDoorFoursSame
import Derived.Deep.OwnRows
import Derived.Deep.Cut
import Derived.Deep.CutBlock
import Derived.Deep.CutRange
namespace Go.Proofs.YthfiecakmlpdiaaDoor
open Go.RowKit Go.Mine Go.Mine.Suite Go.Mine.Spec Go.Mine.Stab Go.Deep

/-- What is wrong. -/
def PF (n : Int) (ts : List Nat) (fs : List Bool) (c : Int) : Prop := (pok n ts fs ∧ c = 0) ∨ (¬ pok n ts fs ∧ (sok n ts → c = 3) ∧ (¬ sok n ts → c = sfault n ts))
theorem PF.ne {n : Int} {ts : List Nat} {fs : List Bool} {c : Int} (h : PF n ts fs c) (hn : ¬ pok n ts fs) : (c == 0) = false := by
  rcases h with ⟨h, _⟩ | ⟨_, h1, h2⟩
  · exact absurd h hn
  · by_cases hs : sok n ts
    · rw [h1 hs]; rfl
    · rw [h2 hs]
      rcases sfault_bad hs with h | h <;> rw [h] <;> rfl
theorem PF.ok {n : Int} {ts : List Nat} {fs : List Bool} {c : Int} (h : PF n ts fs c) (hn : pok n ts fs) : c = 0 := by
  rcases h with ⟨_, h⟩ | ⟨h, _⟩
  · exact h
  · exact absurd hn h
theorem PF.same {n : Int} {ts : List Nat} {fs : List Bool} {c d : Int} (h : PF n ts fs c) (hn : ¬ pok n ts fs) (h1 : sok n ts → d = 3) (h2 : ¬ sok n ts → d = sfault n ts) : d = c := by
  rcases h with ⟨h, _⟩ | ⟨_, k1, k2⟩
  · exact absurd h hn
  · by_cases hs : sok n ts
    · rw [k1 hs, h1 hs]
    · rw [k2 hs, h2 hs]
theorem eqself (c : Int) : (c == c) = true := by simp
theorem made_ints (n : Nat) : (madeCells #[Value.int .i64 0] n).toList = (List.replicate n (0 : Int)).map (Value.int .i64) := by
  rw [toList_madeCells_one]; simp
theorem infoM3 : (Tryd.prog.info? 3).map (fun i => (i.zero, i.size, i.bytes)) = some (some (.int .i64 0), 1, 8) := by kernel_rfl
theorem rows4_four (ts : List Nat) (fs : List Bool) (n : Nat) : ∀ r ∈ rows4 ts fs n, r.length = 4 := fun r hr => by
  obtain ⟨j, hj, rfl⟩ := List.mem_iff_getElem.1 hr
  have h1 := rows4_get ts fs j n (by simpa [rows4_len] using hj)
  simp only [List.getD_eq_getElem?_getD, List.getElem?_eq_getElem hj, Option.getD_some] at h1
  rw [h1]; rfl
theorem flat_last (ts : List Nat) (fs : List Bool) (i k : Nat) (hk : k < 4) : (flat4 (rows4 ts fs (i + 1)))[i * 4 + k]? = some (.int .i64 ((row4 ts fs ts.length i).getD k 0)) := by
  have h := flat4_get (rows4 ts fs (i + 1)) (rows4_four ts fs (i + 1)) i k (by rw [rows4_len]; omega) hk
  rw [rows4_get ts fs i (i + 1) (by omega)] at h
  exact h
theorem ordL_set (ts : List Nat) (fs : List Bool) (n i : Nat) : ((ordL ts fs n i).map (Value.int .i64)).set (cntA ts fs i n) (.int .i64 (i : Int)) = (ordL ts fs n (i + 1)).map (Value.int .i64) := by
  rw [ordL, List.map_set]
/-- What the lists told are. -/
def CR (n : Int) (ts : List Nat) (fs : List Bool) (L : List (List Int)) (O : List Int) : Prop :=
  (pok n ts fs ∧ L = rows4 ts fs n.toNat ∧ O = ordL ts fs n.toNat n.toNat) ∨ (¬ pok n ts fs ∧ L = [] ∧ O = [])

set_option maxHeartbeats 4000000 in
set_option maxRecDepth 100000 in
theorem spectTells_any (n : Int) (ts : List Nat) (fs : List Bool) (ao fo : Option Addr) (ac fc : Nat) (W : World) (hg : Laid W) (hx : IntsAt .u32 W ao (cast ts)) (h32 : ∀ t ∈ ts, t < 4294967296) (hl : ts.length ≤ maxLen) (hf : BoolsAt W fo fs) (hfl : fs.length ≤ maxLen) :
    Calls Tryd.prog 3 #[.int .i64 n, .slice ao ts.length ac, .slice fo fs.length fc] W fun e w' => e = .returned (.bool true) ∧ Below W.heap.size W w' := by
  obtain ⟨i0, hi0, hz0, hz1, hz2⟩ := info_parts infoF
  have HX := Lib.hid (show ∀ w, Below W.heap.size W w → Laid w ∧ IntsAt .u32 w ao (cast ts) ∧ BoolsAt w fo fs from fun w hb => ⟨hg.below hb, hx.below (Nat.le_refl _) hb, hf.below (Nat.le_refl _) hb⟩)
  have H32 := Lib.hid (And.intro h32 (And.intro hl hfl))
  have HBL := Lib.hid (blamed_any W)
  unfold maxLen at hl hfl
  clear hg hx h32 hf
  go_enter Tryd.func3, Tryd.ntmps3
  go_wp2_with fail
  refine HBL.out.mono ?_
  clear HBL
  rintro e w1 ⟨rfl, hb1⟩
  have HB1 := Lib.hid hb1
  have HSF := Lib.hid (sfault_any n ts ao ac w1 (HX.out w1 hb1).2.1 H32.out.1 H32.out.2.1)
  clear hb1
  go_wp2_with fail
  refine HSF.out.mono ?_
  clear HSF
  rintro e w1' ⟨rfl, rfl⟩
  obtain ⟨q, hq⟩ : ∃ q, q = sfault n ts := ⟨_, rfl⟩
  rw [← hq]
  have HC := Lib.hid hq
  clear hq
  go_upto_region 3 with fail
  go_cut [38] from 30 to 38 (fun bv wx => ∃ b : Bool, bv = .bool b ∧ RowKit.Hid ((b = true → sok n ts ∧ ts.length ≠ fs.length) ∧ (b = false → PF n ts fs q)) ∧ wx = w1)
  case first =>
    by_cases hs : sok n ts
    · obtain rfl : q = 0 := HC.out.trans (sfault_ok hs)
      by_cases hle : ts.length = fs.length
      · have hb : ((ts.length : Int) != (fs.length : Int)) = false := by rw [bne_eq_false_iff_eq]; omega
        have HP := Lib.hid (show PF n ts fs 0 from .inl ⟨⟨hs, hle⟩, rfl⟩)
        clear hs hle
        go_wp2_with fail
        go_meet
        exact ⟨false, rfl, Lib.hid ⟨fun h => (by cases h), fun _ => HP.out⟩, rfl⟩
      · have hb : ((ts.length : Int) != (fs.length : Int)) = true := by rw [bne_iff_ne]; omega
        have HP := Lib.hid (And.intro hs hle)
        clear hs hle
        go_wp2_with fail
        go_meet
        exact ⟨true, rfl, Lib.hid ⟨fun _ => HP.out, fun h => (by cases h)⟩, rfl⟩
    · have HP := Lib.hid (show PF n ts fs q from .inr ⟨fun h => hs h.1, fun h => absurd h hs, fun _ => HC.out⟩)
      have hc0 : (q == 0) = false := HP.out.ne (fun h => hs h.1)
      clear hs
      go_wp2_with fail
      go_meet
      exact ⟨false, rfl, Lib.hid ⟨fun h => (by cases h), fun _ => HP.out⟩, rfl⟩
  case rest =>
    obtain ⟨b, rfl, hbb, rfl⟩ := hcut
    go_upto_if 38 with fail
    go_cut [8] from 39 to 39 (fun ev wx => ∃ c : Int, ev = .int .i64 c ∧ RowKit.Hid (PF n ts fs c) ∧ wx = wc)
    case first =>
      cases b with
      | true =>
        have HP := Lib.hid (show PF n ts fs 3 from .inr ⟨fun h => (hbb.out.1 rfl).2 h.2, fun _ => rfl, fun h => absurd (hbb.out.1 rfl).1 h⟩)
        clear hbb
        go_wp2_with fail
        go_meet
        exact ⟨3, rfl, HP, rfl⟩
      | false =>
        have HP := Lib.hid (hbb.out.2 rfl)
        clear hbb
        go_wp2_with fail
        go_meet
        exact ⟨q, rfl, HP, rfl⟩
    case rest =>
    obtain ⟨c, rfl, hp, rfl⟩ := hcut
    clear hbb HC
    have HPF := Lib.hid hp.out
    clear hp
    obtain ⟨w1, hw1⟩ : ∃ w1, w1 = wc := ⟨_, rfl⟩
    subst hw1
    have HCK := Lib.hid (pcheck_any n ts fs ao fo ac fc w1 (HX.out w1 HB1.out).2.1 H32.out.1 H32.out.2.1 H32.out.2.2)
    go_wp2_with fail
    refine HCK.out.mono ?_
    clear HCK
    rintro e w2 ⟨hp, rfl⟩
    obtain ⟨x, rfl, hxn⟩ : ∃ x, e = .returned x ∧ Num x c := by
      rcases hp with ⟨h, rfl⟩ | ⟨h, d, rfl, h1, h2⟩
      · exact ⟨_, rfl, by rw [HPF.out.ok h]; exact Num.nil⟩
      · exact ⟨_, rfl, by rw [← HPF.out.same h h1 h2]; exact Num.err _⟩
    have HER := Lib.hid (error_is x c c hxn w1 (HX.out w1 HB1.out).1)
    clear hp hxn
    go_wp2_with fail
    refine HER.out.mono ?_
    clear HER
    rintro e w3 ⟨rfl, hb3⟩
    rw [eqself]
    have HB3 := Lib.hid (HB1.out.trans (hb3.mono HB1.out.size))
    clear hb3 HB1
    go_upto_if 46 with fail
    go_cut [10, 11] from 47 to 108 (fun lv ov wx => ∃ (L : List (List Int)) (O : List Int) (al ao2 : Option Addr) (cl co : Nat), lv = .slice al L.length cl ∧ ov = .slice ao2 O.length co ∧ L.length ≤ 32 ∧ O.length ≤ 32 ∧ RowKit.Hid (CR n ts fs L O) ∧ RowKit.Hid (Below W.heap.size W wx ∧ FoursAt wx al L ∧ IntsAt .i64 wx ao2 O))
    case first =>
      by_cases hok : pok n ts fs
      rotate_left
      · have hc0 := HPF.out.ne hok
        have HR := Lib.hid (show CR n ts fs [] [] from .inr ⟨hok, rfl, rfl⟩)
        clear hok
        go_wp2_with fail
        go_meet
        exact ⟨[], [], none, none, 0, 0, rfl, rfl, by simp, by simp, HR, Lib.hid ⟨HB3.out, FoursAt.nil _ _, IntsAt.nil _ _ _⟩⟩
      · obtain rfl : c = 0 := HPF.out.ok hok
        obtain ⟨N, rfl⟩ := Int.eq_ofNat_of_zero_le hok.1.1
        have hN : N ≤ 32 := by have := hok.1.2.1; omega
        have ht12 : ts.length ≤ 12 := hok.1.2.2.1
        have HOK := Lib.hid hok
        have HSP := Lib.hid (fun (x : Nat) (hx : x < 32) (w : World) (hb : Below W.heap.size W w) => spectOf_any ts fs x ao fo ac fc w (HX.out w hb).2.1 H32.out.1 ht12 (HX.out w hb).2.2 hok.2 hx)
        have HBO := Lib.hid (fun (x : Nat) (w : World) => show Calls Tryd.prog 9 #[.agg #[.int .i64 (cK ts fs x 0 ts.length : Nat), .int .i64 (cK ts fs x 1 ts.length : Nat), .int .i64 (cK ts fs x 2 ts.length : Nat), .int .i64 (cK ts fs x 3 ts.length : Nat)]] w fun e w' => e = .returned (.tuple #[.int .i64 (ra ts fs x : Nat), .int .i64 (rb ts fs x : Nat)]) ∧ Below w.heap.size w w' from blameOf_any (cK ts fs x 0 ts.length) (cK ts fs x 1 ts.length) (cK ts fs x 2 ts.length) (cK ts fs x 3 ts.length) (Nat.le_trans (cK_le _ _ _ _ _) ht12) (Nat.le_trans (cK_le _ _ _ _ _) ht12) (Nat.le_trans (cK_le _ _ _ _ _) ht12) (Nat.le_trans (cK_le _ _ _ _ _) ht12) w)
        clear hok
        have hmk := run_make_row' (P := Tryd.prog) 32 3 (.int .i64 0) 8 Tryd.underlying32 infoM3 rfl .i64 .i64 N (by omega) (by omega)
        have hg4 : w3.heap.size < (w3.alloc (.cells (madeCells #[Value.int .i64 0] N) 3)).heap.size := by simp
        have HO4 := Lib.hid (show (w3.alloc (.cells (madeCells #[Value.int .i64 0] N) 3)).ownsRow w3.heap.size 3 1 (.slice (some ⟨w3.heap.size, 0, none⟩) N N) N ((ordL ts fs N 0).map (Value.int .i64)) from by
          show World.ownsRow _ _ _ _ _ _ ((List.replicate N (0 : Int)).map (Value.int .i64))
          rw [← made_ints]
          exact owns_laid (heap_alloc_at _ _ rfl) (Nat.le_refl _) (by rw [← Array.length_toList, made_ints]; simp) (by unfold maxLen; omega))
        have HB4 := Lib.hid (show Below w3.heap.size w3 (w3.alloc (.cells (madeCells #[Value.int .i64 0] N) 3)) from (Below.refl _ _).alloc (Nat.le_refl _) _)
        clear hg4
        go_wp2_with fail
        clear hmk
        go_loopw [10, 12] (fun lv iv wr => ∃ i : Nat, iv = .int .i64 i ∧ i ≤ N ∧ RowKit.Hid (wr.ownsRow (w3.heap.size + 1) 33 4 lv i (flat4 (rows4 ts fs i))) ∧ RowKit.Hid (wr.ownsRow w3.heap.size 3 1 (.slice (some ⟨w3.heap.size, 0, none⟩) N N) N ((ordL ts fs N i).map (Value.int .i64))) ∧ RowKit.Hid (Below w3.heap.size w3 wr)) (fun _ iv _ => N - (intOf iv).toNat)
        case atStart => exact ⟨0, rfl, by omega, Lib.hid (World.ownsRow_nil _ _ _ _), HO4, HB4⟩
        clear HO4 HB4
        case round =>
          obtain ⟨i, rfl, hi, hl4, ho4, hb4⟩ := hrel
          have HL := Lib.hid hl4.out
          have HO := Lib.hid ho4.out
          have HB := Lib.hid hb4.out
          have hgs := (ho4.out.lt w3.heap.size rfl).2
          clear hl4 ho4 hb4
          obtain ⟨wi, hwi⟩ : ∃ wi, wi = wr := ⟨_, rfl⟩
          subst hwi
          by_cases hiN : i < N
          · have HS1 := Lib.hid (HSP.out i (by omega) wi (HB3.out.trans (HB.out.mono HB3.out.size)))
            go_wp2_with fail
            refine HS1.out.mono ?_
            clear HS1
            rintro e w5 ⟨rfl, hb5⟩
            obtain ⟨a0, h0⟩ : ∃ a0 : Int, a0 = (cK ts fs i 0 ts.length : Nat) := ⟨_, rfl⟩
            obtain ⟨a1, h1⟩ : ∃ a1 : Int, a1 = (cK ts fs i 1 ts.length : Nat) := ⟨_, rfl⟩
            obtain ⟨a2, h2⟩ : ∃ a2 : Int, a2 = (cK ts fs i 2 ts.length : Nat) := ⟨_, rfl⟩
            obtain ⟨a3, h3⟩ : ∃ a3 : Int, a3 = (cK ts fs i 3 ts.length : Nat) := ⟨_, rfl⟩
            have hr4 : row4 ts fs ts.length i = [a0, a1, a2, a3] := by rw [h0, h1, h2, h3]; rfl
            have HBO1 := Lib.hid (HBO.out i)
            rw [← h0, ← h1, ← h2, ← h3] at *
            have HFL := Lib.hid (show flat4 (rows4 ts fs i) ++ [.int .i64 a0, .int .i64 a1, .int .i64 a2, .int .i64 a3] = flat4 (rows4 ts fs (i + 1)) by rw [rows4, flat4_append, hr4]; rfl)
            have HFC := Lib.hid (show ∀ k, k < 4 → (flat4 (rows4 ts fs (i + 1)))[i * 4 + k]? = some (.int .i64 ([a0, a1, a2, a3].getD k 0)) from fun k hk => by rw [flat_last ts fs i k hk, hr4])
            have HL5 := Lib.hid (owns_below HL.out hb5)
            have HO5 := Lib.hid (owns_below HO.out hb5)
            have HB5 := Lib.hid (HB.out.trans (hb5.mono HB.out.size))
            have hs5 := HB5.out.size
            have hg5 := hb5.size
            clear h0 h1 h2 h3 hr4 hb5
            go_wp2_with (at_builtin; refine wpList_push _ rfl _ _ 31 rfl (w3.heap.size + 1) 33 i0 (.agg #[.int .i64 0, .int .i64 0, .int .i64 0, .int .i64 0]) 4 32 Tryd.underlying31 hi0 hz0 hz1 hz2 rfl (by decide) _ _ _ rfl (HL5.out.alloc _) ⟨w5.heap.size, 0, none⟩ 1 [.int .i64 a0, .int .i64 a1, .int .i64 a2, .int .i64 a3] rfl rfl (World.news_of_block (cs := #[.int .i64 a0, .int .i64 a1, .int .i64 a2, .int .i64 a3]) (t := 33) (fr := (0, 0)) (heap_alloc_new w5 _)) (by intro u hu; simp at hu; rcases hu with rfl | rfl | rfl | rfl <;> rfl) (by unfold maxLen; omega) (by omega) (by simp; omega) ?_)
            intro g6 cap6 w6 hv6 hg6
            rw [HFL.out] at hv6
            have HO6 := Lib.hid (show w6.ownsRow w3.heap.size 3 1 (.slice (some ⟨w3.heap.size, 0, none⟩) N N) N ((ordL ts fs N i).map (Value.int .i64)) from (HO5.out.alloc _).kept hg6 (.inr (fun h => by
              have := (HL5.out.lt w3.heap.size h.symm).1; omega)))
            have HB6 := Lib.hid ((HB5.out.alloc hs5 (.cells #[.int .i64 a0, .int .i64 a1, .int .i64 a2, .int .i64 a3] 33)).grown hg6 (by simp; omega) (fun k hk => by have := (HL5.out.lt k hk).1; omega))
            have hc0 : w6.cell? ⟨g6, i * 4, none⟩ = some (.int .i64 a0) := by rw [hv6.cellAt (i * 4) (by omega)]; exact HFC.out 0 (by omega)
            have hc1 : w6.cell? ⟨g6, i * 4 + 1, none⟩ = some (.int .i64 a1) := by rw [hv6.cellAt (i * 4 + 1) (by omega)]; exact HFC.out 1 (by omega)
            have hc2 : w6.cell? ⟨g6, i * 4 + 2, none⟩ = some (.int .i64 a2) := by rw [hv6.cellAt (i * 4 + 2) (by omega)]; exact HFC.out 2 (by omega)
            have hc3 : w6.cell? ⟨g6, i * 4 + 3, none⟩ = some (.int .i64 a3) := by rw [hv6.cellAt (i * 4 + 3) (by omega)]; exact HFC.out 3 (by omega)
            have HV6 := Lib.hid hv6
            have HBO6 := Lib.hid (HBO1.out w6)
            clear hv6 hg6 HBO1 HL5 HO5 HB5 hs5 hg5 HFC HFL
            obtain ⟨A, hA⟩ : ∃ A : Nat, A = ra ts fs i := ⟨_, rfl⟩
            obtain ⟨B, hBe⟩ : ∃ B : Nat, B = rb ts fs i := ⟨_, rfl⟩
            rw [← hA, ← hBe] at HBO6
            have HAB := Lib.hid (And.intro hA hBe)
            have hA9 : A ≤ 288 := by rw [hA]; exact ra_le ts fs i ht12
            have hB9 : B ≤ 576 := by rw [hBe]; exact rb_le ts fs i ht12
            clear hA hBe
            go_wp2_with fail
            go_fit HBO6.out
            clear HBO6
            rintro e w7 ⟨rfl, hb7⟩
            have HO7 := Lib.hid (owns_below HO6.out hb7)
            have HV7 := Lib.hid (owns_below HV6.out hb7)
            have HB7 := Lib.hid (HB6.out.trans (hb7.mono HB6.out.size))
            clear hb7 hc0 hc1 hc2 hc3 HO6 HV6 HB6
            go_wp2_with fail
            go_loopw [15, 16] (fun kv jv wr => ∃ j : Nat, jv = .int .i64 j ∧ j ≤ N ∧ kv = .int .i64 (cntA ts fs i j : Nat) ∧ RowKit.Hid (Below w7.heap.size w7 wr)) (fun _ jv _ => N - (intOf jv).toNat)
            case atStart => exact ⟨0, rfl, by omega, rfl, Lib.hid (Below.refl _ _)⟩
            case round =>
              obtain ⟨j, rfl, hj, rfl, hbj⟩ := hrel
              have HBJ := Lib.hid (HB7.out.trans (hbj.out.mono HB7.out.size))
              have hcl := cntA_le ts fs i j
              obtain ⟨k, hk⟩ : ∃ k, k = cntA ts fs i j := ⟨_, rfl⟩
              rw [← hk] at hcl ⊢
              by_cases hjN : j < N
              · have HS1 := Lib.hid (HSP.out j (by omega) wr (HB3.out.trans (HBJ.out.mono HB3.out.size)))
                go_wp2_with fail
                go_fit HS1.out
                clear HS1
                rintro e w8 ⟨rfl, hb8⟩
                have HBB := Lib.hid (HBO.out j w8)
                have hra := ra_le ts fs j ht12
                have hrb := rb_le ts fs j ht12
                obtain ⟨C, hC⟩ : ∃ C : Nat, C = ra ts fs j := ⟨_, rfl⟩
                obtain ⟨D, hD⟩ : ∃ D : Nat, D = rb ts fs j := ⟨_, rfl⟩
                rw [← hC] at HBB hra
                rw [← hD] at HBB hrb
                have HB8 := Lib.hid (hbj.out.trans (hb8.mono hbj.out.size))
                have HAH := Lib.hid (show ahead ts fs i j = (decide (A * D < C * B) || (decide (C * B = A * D) && decide (j < i))) by unfold ahead; rw [HAB.out.1, HAB.out.2, hC, hD])
                have HCN := Lib.hid (show cntA ts fs i (j + 1) = k + if ahead ts fs i j then 1 else 0 by rw [hk]; rfl)
                rw [HAH.out] at HCN
                clear hb8 hC hD hk HAH hbj
                have p1 : C * B ≤ 165888 := Nat.le_trans (Nat.mul_le_mul hra hB9) (by decide)
                have p2 : A * D ≤ 165888 := Nat.le_trans (Nat.mul_le_mul hA9 hrb) (by decide)
                obtain ⟨P, hP⟩ : ∃ P : Nat, P = C * B := ⟨_, rfl⟩
                obtain ⟨Q, hQ⟩ : ∃ Q : Nat, Q = A * D := ⟨_, rfl⟩
                rw [← hP, ← hQ] at HCN
                rw [← hP] at p1
                rw [← hQ] at p2
                have hP2 : (C : Int) * (B : Int) = (P : Int) := by rw [hP, Int.natCast_mul]
                have hQ2 : (A : Int) * (D : Int) = (Q : Int) := by rw [hQ, Int.natCast_mul]
                clear hP hQ
                have HPQ := Lib.hid (And.intro hP2 hQ2)
                clear hP2 hQ2
                go_wp2_with fail
                go_fit HBB.out
                clear HBB
                rintro e w9 ⟨rfl, hb9⟩
                have HB9 := Lib.hid (HB8.out.trans (hb9.mono HB8.out.size))
                have hP2 := HPQ.out.1
                have hQ2 := HPQ.out.2
                clear hb9 HB8
                by_cases c1 : Q < P
                · have HN := Lib.hid (show cntA ts fs i (j + 1) = k + 1 by rw [HCN.out, decide_eq_true c1]; rfl)
                  clear HCN
                  have g1 : decide ((Q : Int) < (P : Int)) = true := by simp; omega
                  go_wp2_with fail
                  go_roundw
                  case rel => exact ⟨j + 1, by go_num, by omega, by rw [HN.out]; go_num, HB9⟩
                  case measure => simp [intOf]; omega
                · have g1 : decide ((Q : Int) < (P : Int)) = false := by simp; omega
                  by_cases c2 : P = Q
                  · have g2 : ((P : Int) == (Q : Int)) = true := by rw [beq_iff_eq]; omega
                    by_cases c3 : j < i
                    · have HN := Lib.hid (show cntA ts fs i (j + 1) = k + 1 by rw [HCN.out, decide_eq_true c2, decide_eq_true c3]; simp)
                      clear HCN c2
                      go_wp2_with fail
                      go_roundw
                      case rel => exact ⟨j + 1, by go_num, by omega, by rw [HN.out]; go_num, HB9⟩
                      case measure => simp [intOf]; omega
                    · have HN := Lib.hid (show cntA ts fs i (j + 1) = k by rw [HCN.out, decide_eq_false c3, decide_eq_false c1]; simp)
                      clear HCN c2
                      go_wp2_with fail
                      go_roundw
                      case rel => exact ⟨j + 1, by go_num, by omega, by rw [HN.out], HB9⟩
                      case measure => simp [intOf]; omega
                  · have g2 : ((P : Int) == (Q : Int)) = false := by rw [beq_eq_false_iff_ne]; omega
                    have HN := Lib.hid (show cntA ts fs i (j + 1) = k by rw [HCN.out, decide_eq_false c2, decide_eq_false c1]; simp)
                    clear HCN c2
                    go_wp2_with fail
                    go_roundw
                    case rel => exact ⟨j + 1, by go_num, by omega, by rw [HN.out], HB9⟩
                    case measure => simp [intOf]; omega
              · obtain rfl : j = N := by omega
                have hkN : k < j := by rw [hk]; exact cntA_lt ts fs i j hiN
                have hown := owns_below HO7.out hbj.out
                have hv := owns_below HV7.out hbj.out
                have hck : wr.cell? ⟨w3.heap.size, k, none⟩ = some (.int .i64 ((ordL ts fs j i).getD k 0)) := by
                  rw [hown.cellAt k (by omega), List.getElem?_map]
                  have : k < (ordL ts fs j i).length := by rw [ordL_len]; exact hkN
                  simp [this]
                have hfk := hown.frozenAt k
                have hst := hown.stored k (.int .i64 (i : Int))
                have HST := Lib.hid hst.1
                rw [show ((ordL ts fs j i).map (Value.int .i64)).set k (.int .i64 (i : Int)) = (ordL ts fs j (i + 1)).map (Value.int .i64) by rw [hk]; exact ordL_set ts fs j i] at HST
                have HVN := Lib.hid (hv.kept hst.2 (.inr (fun h => by
                  have := (hv.lt w3.heap.size h).1; omega)))
                have HBN := Lib.hid (HBJ.out.setCell (p := ⟨w3.heap.size, k, none⟩) (Nat.le_refl _) (.int .i64 (i : Int)))
                clear hk hown hv hst hbj
                go_wp2_with fail
                go_roundw
                case rel => ((repeat apply Exists.intro); exact ⟨⟨i + 1, by go_num, by omega, HVN, HST, HBN⟩, rfl⟩)
                case measure => simp [intOf]; omega
          · obtain rfl : i = N := by omega
            obtain ⟨al, cl, hve⟩ := owns_shape HL.out
            subst hve
            have HF := Lib.hid (FoursAt.of_owns (rows4_four ts fs i) HL.out)
            have HI := Lib.hid (IntsAt.of_owns HO.out)
            have HR := Lib.hid (show CR i ts fs (rows4 ts fs i) (ordL ts fs i i) from .inl ⟨HOK.out, rfl, rfl⟩)
            have l1 := rows4_len ts fs i
            have l2 := ordL_len ts fs i i
            have HL12 := Lib.hid (And.intro l1 l2)
            clear l1 l2 hgs
            go_wp2_with fail
            go_meet
            exact ⟨rows4 ts fs i, ordL ts fs i i, al, some ⟨w3.heap.size, 0, none⟩, cl, i, by rw [HL12.out.1], by rw [HL12.out.2], by rw [HL12.out.1]; exact hN, by rw [HL12.out.2]; exact hN, HR, Lib.hid ⟨HB3.out.trans (HB.out.mono HB3.out.size), HF.out, HI.out⟩⟩
    case rest =>
      obtain ⟨L, O, al, ao2, cl, co, rfl, rfl, hL32, hO32, hcr, hst⟩ := hcut
      have HALL := Lib.hid (show ∀ w, Below wc.heap.size wc w → Below W.heap.size W w ∧ FoursAt w al L ∧ IntsAt .i64 w ao2 O from fun w hb => ⟨hst.out.1.trans (hb.mono hst.out.1.size), hst.out.2.1.below (Nat.le_refl _) hb, hst.out.2.2.below (Nat.le_refl _) hb⟩)
      have HCR := Lib.hid hcr.out
      have hbc := hst.out.1
      have HCO := Lib.hid (counts_any n ts fs ao fo ac fc wc (HX.out wc hbc).2.1 H32.out.1 H32.out.2.1 (HX.out wc hbc).2.2 H32.out.2.2)
      clear hst hcr hbc HB3
      go_wp2_with fail
      go_fit HCO.out
      clear HCO
      rintro e v1 ⟨hp, hb⟩
      have HV := Lib.hid hb
      obtain ⟨a1, c1, x1, rfl, hn1, hz⟩ : ∃ a1 c1 x1, e = .returned (.tuple #[.slice a1 L.length c1, x1]) ∧ Num x1 c ∧ FoursAt v1 a1 L := by
        rcases hp with ⟨h, a1, c1, rfl, hf1⟩ | ⟨h, d, rfl, h1, h2⟩
        · rcases HCR.out with ⟨_, rfl, _⟩ | ⟨hno, _⟩
          · exact ⟨a1, c1, .nilIface, by rw [rows4_len], by rw [HPF.out.ok h]; exact Num.nil, hf1⟩
          · exact absurd h hno
        · rcases HCR.out with ⟨ho, _⟩ | ⟨_, rfl, _⟩
          · exact absurd ho h
          · exact ⟨none, 0, _, rfl, by rw [← HPF.out.same h h1 h2]; exact Num.err _, FoursAt.nil _ _⟩
      have HZ := Lib.hid (show ∀ w, Below v1.heap.size v1 w → FoursAt w a1 L from fun w h => hz.below (Nat.le_refl _) h)
      have HER := Lib.hid (error_is x1 c c hn1 v1 (HX.out v1 (HALL.out v1 hb).1).1)
      clear hp hb hn1 hz
      go_wp2_with fail
      refine HER.out.mono ?_
      clear HER
      rintro e v2 ⟨rfl, hb⟩
      rw [eqself]
      have HV2 := Lib.hid (HV.out.trans (hb.mono HV.out.size))
      have H4 := Lib.hid (show ∀ r ∈ L, r.length = 4 from by
        rcases HCR.out with ⟨_, rfl, _⟩ | ⟨_, rfl, _⟩
        · exact rows4_four ts fs _
        · intro r hr; cases hr)
      have HFS := Lib.hid (fours_same L a1 al c1 cl v2 (HZ.out v2 hb) (HALL.out v2 HV2.out).2.1 H4.out (by unfold maxLen; omega))
      clear hb HV HZ H4
      go_wp2_with fail
      refine HFS.out.mono ?_
      clear HFS
      rintro e v3 ⟨rfl, hb⟩
      have HV3 := Lib.hid (HV2.out.trans (hb.mono HV2.out.size))
      have HOR := Lib.hid (order_any n ts fs ao fo ac fc v3 (HX.out v3 (HALL.out v3 HV3.out).1).2.1 H32.out.1 H32.out.2.1 (HX.out v3 (HALL.out v3 HV3.out).1).2.2 H32.out.2.2)
      clear hb HV2
      go_wp2_with fail
      go_fit HOR.out
      clear HOR
      rintro e v4 ⟨hp, hb⟩
      have HV4 := Lib.hid (HV3.out.trans (hb.mono HV3.out.size))
      obtain ⟨a2, c2, x2, rfl, hn2, hz⟩ : ∃ a2 c2 x2, e = .returned (.tuple #[.slice a2 O.length c2, x2]) ∧ Num x2 c ∧ IntsAt .i64 v4 a2 O := by
        rcases hp with ⟨h, a2, c2, d, rfl, hi, hv, hs⟩ | ⟨h, d, rfl, h1, h2⟩
        · rcases HCR.out with ⟨_, _, rfl⟩ | ⟨hno, _⟩
          · refine ⟨a2, c2, .nilIface, by rw [ordL_len], by rw [HPF.out.ok h]; exact Num.nil, ?_⟩
            rw [ordL_eq ts fs hv hs]
            exact hi
          · exact absurd h hno
        · rcases HCR.out with ⟨ho, _⟩ | ⟨_, _, rfl⟩
          · exact absurd ho h
          · exact ⟨none, 0, _, rfl, by rw [← HPF.out.same h h1 h2]; exact Num.err _, IntsAt.nil _ _ _⟩
      have HZ := Lib.hid (show ∀ w, Below v4.heap.size v4 w → IntsAt .i64 w a2 O from fun w h => hz.below (Nat.le_refl _) h)
      have HER := Lib.hid (error_is x2 c c hn2 v4 (HX.out v4 (HALL.out v4 HV4.out).1).1)
      clear hp hb hn2 hz HV3
      go_wp2_with fail
      refine HER.out.mono ?_
      clear HER
      rintro e v5 ⟨rfl, hb⟩
      rw [eqself]
      have HV5 := Lib.hid (HV4.out.trans (hb.mono HV4.out.size))
      have HI := Lib.hid (Ints_any O O a2 ao2 c2 co v5 (HZ.out v5 hb) (HALL.out v5 HV5.out).2.2 (by unfold maxLen; omega))
      clear hb HV4 HZ
      go_wp2_with fail
      refine HI.out.mono ?_
      clear HI
      rintro e v6 ⟨rfl, nq, rfl⟩
      rw [decide_true]
      have HV6 := Lib.hid (below_drewN HV5.out nq)
      obtain ⟨v6, hv6⟩ : ∃ v6, v6 = v5.drewN nq := ⟨_, rfl⟩
      rw [← hv6] at HV6 ⊢
      clear hv6 HV5
      go_wp2_with fail
      go_ret
      exact ⟨rfl, (HALL.out v6 HV6.out).1⟩
end Go.Proofs.YthfiecakmlpdiaaDoor
