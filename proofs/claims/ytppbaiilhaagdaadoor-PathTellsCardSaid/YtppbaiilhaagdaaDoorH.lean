/- PathTells' walk. CONDITION: errors.errorType holds what start-up lays there. -/
import Derived.Test.YtppbaiilhaagdaaDoorPathCheck
import Derived.Test.YtppbaiilhaagdaaDoorSInts
import Derived.Deep.Cut
import Derived.Deep.CutBlock
import Derived.Deep.CutRange
namespace Go.Proofs.YtppbaiilhaagdaaDoor
open Go.RowKit Go.Mine Go.Mine.Path Go.Mine.Flow Go.Deep

theorem paths_rk {es : List (Nat × Nat)} {n K : Nat} {w : List Nat} (hes : ∀ e ∈ es, e.1 < n ∧ e.2 < n) (hg : Go.Mine.Path.Good es 0) (hn : 0 < n) (h : (paths es n 0)[K]? = some w) : rk es n w = K :=
  paths_one (rk_get hes (paths_isPath (List.mem_of_getElem? h)) hg hn) h
/-- The path that is wanted, or that there is none. -/
def FR (A : List (List Nat)) (k f : Int) (want : List Int) : Prop := (0 ≤ k ∧ k < (A.length : Int) ∧ f = 0 ∧ ∃ p, A[k.toNat]? = some p ∧ want = ints p) ∨ (¬ (0 ≤ k ∧ k < (A.length : Int)) ∧ f = 1 ∧ want = [])
/-- Where the way stands. -/
def GR (A : List (List Nat)) (way : List Int) (g a : Int) : Prop := (∃ j p, A[j]? = some p ∧ way = ints p ∧ g = 0 ∧ a = (j : Nat)) ∨ ((∀ p ∈ A, way ≠ ints p) ∧ g = 3 ∧ a = 0)

set_option maxHeartbeats 2000000 in
set_option maxRecDepth 100000 in
theorem pathTells_bad (n : Int) (es : List (Int × Int)) (k : Int) (way : List Int) (lo wo : Option Addr) (lc wcap : Nat) (W : World) (hg : Laid W) (hx : PairsAt W lo es) (hl : es.length ≤ maxLen) (hc : lo ≠ none → es.length ≤ lc) (hw : IntsAt .i64 W wo way) (hwl : way.length ≤ maxLen) (hwc : wo ≠ none → way.length ≤ wcap) (hno : ¬ pathOk n es) :
    Calls Tryd.prog 3 #[.int .i64 n, .slice lo es.length lc, .int .i64 k, .slice wo way.length wcap] W fun e w' => e = .returned (.bool true) ∧ Below W.heap.size W w' := by
  have HX := Lib.hid (show ∀ w, Below W.heap.size W w → Laid w ∧ PairsAt w lo es ∧ IntsAt .i64 w wo way from fun w hb => ⟨hg.below hb, hx.below (Nat.le_refl _) hb, hw.below (Nat.le_refl _) hb⟩)
  have HL := Lib.hid (And.intro hl (And.intro hc (And.intro hwl hwc)))
  have HNO := Lib.hid hno
  have HF := Lib.hid (pathed_any W)
  clear hg hx hl hc hw hwl hwc hno
  go_enter Tryd.func3, Tryd.ntmps3
  go_wp2_with fail
  refine HF.out.mono ?_
  clear HF
  rintro e w1 ⟨rfl, hb1⟩
  have HB1 := Lib.hid hb1
  have HPF := Lib.hid (pathFault_any n es lo lc w1 (HX.out w1 hb1).2.1 HL.out.1 HL.out.2.1)
  clear hb1
  go_wp2_with fail
  refine HPF.out.mono ?_
  clear HPF
  rintro e w2 ⟨⟨c, rfl, hpe⟩, hb2⟩
  have HPE := Lib.hid hpe
  have HB2 := Lib.hid (HB1.out.trans (hb2.mono HB1.out.size))
  have hc0 : (c == 0) = false := hpe.ne HNO.out
  have HCK := Lib.hid (pathCheck_any n es c lo lc w2 (HX.out w2 HB2.out).2.1 HL.out.1 HL.out.2.1 hpe)
  clear hpe hb2 HB1
  go_wp2_with fail
  refine HCK.out.mono ?_
  clear HCK
  rintro e w3 ⟨⟨x, rfl, hxn⟩, hb3⟩
  have HB3 := Lib.hid (HB2.out.trans (hb3.mono HB2.out.size))
  have HER := Lib.hid (error_is x c c hxn w3 (HX.out w3 HB3.out).1)
  clear hxn hb3 HB2
  go_wp2_with fail
  refine HER.out.mono ?_
  clear HER
  rintro e w4 ⟨rfl, hb4⟩
  rw [eqself]
  have HB4 := Lib.hid (HB3.out.trans (hb4.mono HB3.out.size))
  have HC := Lib.hid (pcount_any n es lo lc w4 (HX.out w4 HB4.out).2.1 HL.out.1 HL.out.2.1)
  clear hb4 HB3
  go_wp2_with fail
  refine HC.out.mono ?_
  clear HC
  rintro e w5 ⟨hb, ⟨hok, _⟩ | ⟨_, d, rfl, h1, h2⟩⟩
  · exact absurd hok HNO.out
  obtain rfl : d = c := HPE.out.same HNO.out h1 h2
  have HB5 := Lib.hid (HB4.out.trans (hb.mono HB4.out.size))
  have HER := Lib.hid (error_is _ d d (Num.err d) w5 (HX.out w5 HB5.out).1)
  clear hb h1 h2 HB4
  go_wp2_with fail
  refine HER.out.mono ?_
  clear HER
  rintro e w6 ⟨rfl, hb⟩
  rw [eqself]
  have HB6 := Lib.hid (HB5.out.trans (hb.mono HB5.out.size))
  have HN := Lib.hid (nth_any n es k lo lc w6 (HX.out w6 HB6.out).2.1 HL.out.1 HL.out.2.1)
  clear hb HB5
  go_wp2_with fail
  refine HN.out.mono ?_
  clear HN
  rintro e w7 ⟨hb, ⟨hok, _⟩ | ⟨hok, _⟩ | ⟨_, c2, rfl, h1, h2⟩⟩
  · exact absurd hok HNO.out
  · exact absurd hok HNO.out
  obtain rfl : c2 = d := HPE.out.same HNO.out h1 h2
  have HB7 := Lib.hid (HB6.out.trans (hb.mono HB6.out.size))
  have HER := Lib.hid (error_is _ c2 c2 (Num.err c2) w7 (HX.out w7 HB7.out).1)
  clear hb h1 h2 HB6
  go_wp2_with fail
  refine HER.out.mono ?_
  clear HER
  rintro e w8 ⟨rfl, hb⟩
  rw [eqself]
  have HB8 := Lib.hid (HB7.out.trans (hb.mono HB7.out.size))
  have HI := Lib.hid (Ints_any [] [] none none 0 0 w8 (IntsAt.nil _ _ _) (IntsAt.nil _ _ _) (by simp))
  clear hb HB7
  go_wp2_with fail
  refine HI.out.mono ?_
  clear HI
  rintro e w9 ⟨rfl, nq, rfl⟩
  rw [decide_true]
  have HB9 := Lib.hid (below_drewN HB8.out nq)
  obtain ⟨w9, hw9⟩ : ∃ w9, w9 = w8.drewN nq := ⟨_, rfl⟩
  rw [← hw9] at HB9 ⊢
  have HR := Lib.hid (rank_any n es way lo wo lc wcap w9 (HX.out w9 HB9.out).2.1 HL.out.1 HL.out.2.1 (HX.out w9 HB9.out).2.2 HL.out.2.2.1 HL.out.2.2.2)
  clear hw9 HB8
  go_wp2_with fail
  refine HR.out.mono ?_
  clear HR
  rintro e w10 ⟨hb, ⟨hok, _⟩ | ⟨hok, _⟩ | ⟨_, c3, rfl, h1, h2⟩⟩
  · exact absurd hok HNO.out
  · exact absurd hok HNO.out
  obtain rfl : c3 = c2 := HPE.out.same HNO.out h1 h2
  have HB10 := Lib.hid (HB9.out.trans (hb.mono HB9.out.size))
  have HER := Lib.hid (error_is _ c3 c3 (Num.err c3) w10 (HX.out w10 HB10.out).1)
  clear hb h1 h2 HB9
  go_wp2_with fail
  refine HER.out.mono ?_
  clear HER
  rintro e w11 ⟨rfl, hb⟩
  rw [eqself]
  have HB11 := Lib.hid (HB10.out.trans (hb.mono HB10.out.size))
  clear hb
  go_wp2_with fail
  go_ret
  exact ⟨rfl, HB11.out⟩
end Go.Proofs.YtppbaiilhaagdaaDoor
