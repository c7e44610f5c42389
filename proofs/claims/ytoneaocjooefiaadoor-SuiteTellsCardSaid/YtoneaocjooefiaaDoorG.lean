/- SuiteTells' walk. CONDITIONS: errors.errorType and math/bits.deBruijn64tab hold what start-up lays there. -/
import Derived.Test.YtoneaocjooefiaaDoorSuite15
import Derived.Test.YtoneaocjooefiaaDoorTold
import Derived.Test.YtoneaocjooefiaaDoorSInts
namespace Go.Proofs.YtoneaocjooefiaaDoor
open Go.RowKit Go.Mine Go.Mine.Suite

theorem error_same (x : Value) (c : Int) (hx : (x = .nilIface ∧ c = 0) ∨ x = .iface 39 (.int .i64 c)) (w : World) (hg : Laid w) :
    Calls Tryd.prog 16 #[x, .int .i64 c] w fun e w' => e = .returned (.bool true) ∧ Below w.heap.size w w' := by
  have H := told_any x c hx w hg
  go_enter Tryd.func16, Tryd.ntmps16
  go_wp2_with fail
  refine H.mono ?_
  rintro e w' ⟨rfl, hb⟩
  clear H
  go_wp2_with fail
  go_ret
  exact ⟨by simp, hb⟩
theorem ints_nil (w : World) : Calls Tryd.prog 20 #[.slice none 0 0, .slice none 0 0] w fun e w' => e = .returned (.bool true) ∧ Below w.heap.size w w' :=
  (Ints_any [] [] none none 0 0 w (IntsAt.nil _ _ _) (IntsAt.nil _ _ _) (by simp [maxLen])).mono fun e w' ⟨h, n, hn⟩ => ⟨by rw [h]; simp, by rw [hn]; exact below_drewN (Below.refl _ _) _⟩
theorem ints_same (xs : List Int) (a b : Option Addr) (ca cb : Nat) (w : World) (ha : IntsAt .i64 w a xs) (hb : IntsAt .i64 w b xs) (hl : xs.length ≤ maxLen) :
    Calls Tryd.prog 20 #[.slice a xs.length ca, .slice b xs.length cb] w fun e w' => e = .returned (.bool true) ∧ Below w.heap.size w w' :=
  (Ints_any xs xs a b ca cb w ha hb hl).mono fun e w' ⟨h, n, hn⟩ => ⟨by rw [h]; simp, by rw [hn]; exact below_drewN (Below.refl _ _) _⟩

set_option maxHeartbeats 1000000 in
set_option maxRecDepth 100000 in
theorem tells_bad (n : Int) (ts : List Nat) (ao : Option Addr) (c : Nat) (W : World) (hg : Laid W) (hx : IntsAt .u32 W ao (cast ts)) (h32 : ∀ t ∈ ts, t < 4294967296) (hl : ts.length ≤ maxLen) (hT : Tab W) (hno : ¬ sok n ts) :
    Calls Tryd.prog 6 #[.int .i64 n, .slice ao ts.length c] W fun e w' => e = .returned (.bool true) ∧ Below W.heap.size W w' := by
  have HX := Lib.hid (show ∀ w, Below W.heap.size W w → IntsAt .u32 w ao (cast ts) from fun w hb => hx.below (Nat.le_refl _) hb)
  have HT := Lib.hid (show ∀ w, Below W.heap.size W w → Tab w from fun w hb => hT.on hb)
  have HG := Lib.hid (show ∀ w, Below W.heap.size W w → Laid w from fun w hb => hg.below hb)
  have H32 := Lib.hid h32
  have HL := Lib.hid hl
  have HNO := Lib.hid hno
  have HS := Lib.hid (suited_any W hT)
  obtain ⟨f, hf⟩ : ∃ f, f = sfault n ts := ⟨_, rfl⟩
  have hbad := sfault_bad hno
  rw [← hf] at hbad
  have hf0 : (f == 0) = false := by rw [beq_eq_false_iff_ne]; omega
  have HF := Lib.hid hf
  clear hx h32 hl hT hg hno hbad hf
  go_enter Tryd.func6, Tryd.ntmps6
  go_wp2_with fail
  refine HS.out.mono ?_
  rintro e w1 ⟨rfl, hb1⟩
  have HB1 := Lib.hid hb1
  have h1 := sfault_any n ts ao c w1 (HX.out _ hb1) H32.out HL.out
  rw [← HF.out] at h1
  go_wp2_with fail
  refine h1.mono ?_
  rintro e w' ⟨rfl, rfl⟩
  clear h1
  have h2 := scheck_any n ts ao c w1 (HX.out _ hb1) H32.out HL.out
  rw [← HF.out] at h2
  go_wp2_with fail
  refine h2.mono ?_
  rintro e w' ⟨⟨hok, _⟩ | ⟨_, rfl⟩, rfl⟩
  · exact absurd hok HNO.out
  clear h2
  go_wp2_with fail
  refine (error_same _ f (.inr rfl) w1 (HG.out _ HB1.out)).mono ?_
  rintro e w2 ⟨rfl, hb2⟩
  have HB2 := Lib.hid (HB1.out.trans (hb2.mono HB1.out.size))
  clear hb1 hb2
  go_wp2_with fail
  have h3 := greedy_any n ts ao c w2 (HX.out _ HB2.out) H32.out HL.out (HT.out _ HB2.out)
  unfold GreedyPost at h3
  rw [← HF.out] at h3
  refine h3.mono ?_
  rintro e w3 ⟨⟨_, rfl⟩ | ⟨hok, _⟩, hb3⟩
  rotate_left
  · exact absurd hok HNO.out
  have HB3 := Lib.hid (HB2.out.trans (hb3.mono HB2.out.size))
  clear h3 hb3
  go_wp2_with fail
  refine (error_same _ f (.inr rfl) w3 (HG.out _ HB3.out)).mono ?_
  rintro e w4 ⟨rfl, hb4⟩
  have HB4 := Lib.hid (HB3.out.trans (hb4.mono HB3.out.size))
  clear hb4
  go_wp2_with fail
  refine (ints_nil w4).mono ?_
  rintro e w5 ⟨rfl, hb5⟩
  have HB5 := Lib.hid (HB4.out.trans (hb5.mono HB4.out.size))
  clear hb5
  go_wp2_with fail
  have h6 := least_any n ts ao c w5 (HX.out _ HB5.out) H32.out HL.out (HT.out _ HB5.out)
  unfold LeastPost at h6
  rw [← HF.out] at h6
  refine h6.mono ?_
  rintro e w6 ⟨⟨_, rfl⟩ | ⟨hok, _⟩, hb6⟩
  rotate_left
  · exact absurd hok HNO.out
  have HB6 := Lib.hid (HB5.out.trans (hb6.mono HB5.out.size))
  clear h6 hb6
  go_wp2_with fail
  refine (error_same _ f (.inr rfl) w6 (HG.out _ HB6.out)).mono ?_
  rintro e w7 ⟨rfl, hb7⟩
  have HB7 := Lib.hid (HB6.out.trans (hb7.mono HB6.out.size))
  clear hb7
  go_wp2_with fail
  refine (ints_nil w7).mono ?_
  rintro e w8 ⟨rfl, hb8⟩
  have HB8 := Lib.hid (HB7.out.trans (hb8.mono HB7.out.size))
  clear hb8
  go_wp2_with fail
  go_ret
  exact ⟨by simp, HB8.out⟩
end Go.Proofs.YtoneaocjooefiaaDoor
