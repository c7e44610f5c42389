/- OaTells' walk: numbers that are not served. CONDITION: errors.errorType holds what start-up lays there. -/
import Derived.Test.YtmcbplklopejlaaDoorOa5
import Derived.Test.YtmcbplklopejlaaDoorSRows
import Derived.Test.YtmcbplklopejlaaDoorErrIs
namespace Go.Proofs.YtmcbplklopejlaaDoor
open Go.RowKit Go.Mine

theorem eqself (c : Int) : (c == c) = true := by simp
set_option maxHeartbeats 1000000 in
set_option maxRecDepth 100000 in
theorem oaTells_bad (q : Int) (rows : List (List Int)) (ao : Option Addr) (cp : Nat) (W : World) (hg : Laid W) (hx : RowsAt W ao rows) (hl : rows.length ≤ maxLen) (hno : ¬ qok q) :
    Calls Tryd.prog 3 #[.int .i64 q, .slice ao rows.length cp] W fun e w' => e = .returned (.bool true) ∧ Below W.heap.size W w' := by
  have HG := Lib.hid hg
  have HX := Lib.hid (show ∀ w, Below W.heap.size W w → RowsAt w ao rows from fun w hb => hx.below (Nat.le_refl _) hb)
  have HNO := Lib.hid hno
  have h2 : (q != 2) = true := by rw [bne_iff_ne]; exact fun h => hno (.inl h)
  have h3 : (q != 3) = true := by rw [bne_iff_ne]; exact fun h => hno (.inr (.inl h))
  have h5 : (q != 5) = true := by rw [bne_iff_ne]; exact fun h => hno (.inr (.inr (.inl h)))
  have h7 : (q != 7) = true := by rw [bne_iff_ne]; exact fun h => hno (.inr (.inr (.inr h)))
  clear hg hx hno
  have hl2 := hl
  unfold maxLen at hl2
  go_enter Tryd.func3, Tryd.ntmps3
  go_wp2_with fail
  go_loop [6] (fun ov => ov = .slice none 0 0) (fun _ => 0)
  case atStart => rfl
  case round =>
    obtain rfl := hrel
    go_wp2_with fail
    refine (oarows_any q W).mono ?_
    rintro e w1 ⟨⟨_, rfl⟩ | ⟨h, _⟩, hb1⟩
    rotate_left
    · exact absurd h HNO.out
    have HB1 := Lib.hid hb1
    go_wp2_with fail
    refine (error_is _ _ 1 (Num.err 1) w1 (HG.out.below hb1)).mono ?_
    rintro e w2 ⟨rfl, hb2⟩
    rw [eqself]
    have HB2 := Lib.hid (HB1.out.trans (hb2.mono HB1.out.size))
    clear hb1 hb2 HB1
    have HRR := Lib.hid (Rows_any [] [] none none 0 0 w2 (RowsAt.nil _ _) (RowsAt.nil _ _) (by simp) (by simp))
    go_wp2_with fail
    refine HRR.out.mono ?_
    clear HRR
    rintro e w3 ⟨rfl, nq, rfl⟩
    have HB3 := Lib.hid (below_drewN HB2.out nq)
    obtain ⟨w3, hw3⟩ : ∃ w3, w3 = w2.drewN nq := ⟨_, rfl⟩
    rw [← hw3] at HB3 ⊢
    clear hw3 HB2
    go_wp2_with fail
    go_loop [5] (fun ev => ev = .int .i64 1) (fun _ => 0)
    case atStart => rfl
    case round =>
      obtain rfl := hrel
      go_wp2_with fail
      go_loop [16] (fun ev => ev = .bool false) (fun _ => 0)
      case atStart => rfl
      case round =>
        obtain rfl := hrel
        have HRT := Lib.hid (oaright_any q rows ao cp w3 (HX.out w3 HB3.out) hl)
        go_wp2_with fail
        refine HRT.out.mono ?_
        clear HRT
        rintro e w4 ⟨⟨_, rfl⟩ | ⟨h, _⟩ | ⟨h, _⟩, hb4⟩
        rotate_left
        · exact absurd h HNO.out
        · exact absurd h HNO.out
        have hb4' := HB3.out.trans (hb4.mono HB3.out.size)
        have HB4 := Lib.hid hb4'
        clear hb4 HB3
        go_wp2_with fail
        refine (error_is _ _ 1 (Num.err 1) w4 (HG.out.below hb4')).mono ?_
        rintro e w5 ⟨rfl, hb5⟩
        rw [eqself]
        have HB5 := Lib.hid (HB4.out.trans (hb5.mono HB4.out.size))
        have HR2 := Lib.hid (oarows_any 2 w5)
        clear hb4' hb5
        go_wp2_with fail
        refine HR2.out.mono ?_
        rintro e w6 ⟨⟨h, _⟩ | ⟨_, m, a2, c2, hm, rfl, _⟩, hb6⟩
        · exact absurd (Or.inl rfl) h
        obtain rfl : m = 2 := by omega
        have HB6 := Lib.hid (HB5.out.trans (hb6.mono HB5.out.size))
        clear hm hb6
        go_wp2_with fail
        go_ret
        exact ⟨rfl, HB6.out⟩
end Go.Proofs.YtmcbplklopejlaaDoor
