/- assayerref1.Shorter, of numbers. No conditions. -/
import Derived.Test.YtfdjnofkoegbdaaDoorGramW
import Derived.Test.YtfdjnofkoegbdaaDoorRows
import Derived.Deep.QuietTactic
import Derived.BigQuiet
namespace Go.Proofs.YtfdjnofkoegbdaaDoor
open Go.RowKit Go.Mine Go.Mine.Gram

def lexLtB : List Int → List Int → Bool
  | x :: xs, y :: ys => if x = y then lexLtB xs ys else decide (x < y)
  | _, _ => false
def shorterB (a b : List Int) : Bool := if a.length = b.length then lexLtB a b else decide (a.length < b.length)
theorem lexLtB_iff : ∀ {a b : List Int}, lexLtB a b = true ↔ Lex a b
  | [], b => by simp [lexLtB, Lex]
  | _ :: _, [] => by simp [lexLtB, Lex]
  | x :: xs, y :: ys => by
    unfold lexLtB Lex
    by_cases e : x = y
    · rw [if_pos e, lexLtB_iff]
      constructor
      · intro h; exact .inr ⟨e, h⟩
      · rintro (h | ⟨_, h⟩)
        · omega
        · exact h
    · rw [if_neg e, decide_eq_true_iff]
      constructor
      · intro h; exact .inl h
      · rintro (h | ⟨h, _⟩)
        · exact h
        · exact absurd h e
theorem shorterB_iff {a b : List Int} : shorterB a b = true ↔ Less a b := by
  unfold shorterB Less
  by_cases e : a.length = b.length
  · rw [if_pos e, lexLtB_iff]
    constructor
    · intro h; exact .inr ⟨e, h⟩
    · rintro (h | ⟨_, h⟩)
      · omega
      · exact h
  · rw [if_neg e, decide_eq_true_iff]
    constructor
    · intro h; exact .inl h
    · rintro (h | ⟨h, _⟩)
      · exact h
      · exact absurd h e
theorem lexLtB_step {xs ys : List Int} {k : Nat} (hk : k < xs.length) (hk' : k < ys.length) : lexLtB (xs.drop k) (ys.drop k) = if xs.getD k 0 = ys.getD k 0 then lexLtB (xs.drop (k + 1)) (ys.drop (k + 1)) else decide (xs.getD k 0 < ys.getD k 0) := by
  rw [List.drop_eq_getElem_cons hk, List.drop_eq_getElem_cons hk']
  simp [lexLtB, hk, hk']
theorem lexLtB_end (xs ys : List Int) : lexLtB (xs.drop xs.length) ys = false := by
  rw [List.drop_length]; rfl

set_option maxHeartbeats 600000 in
theorem shorter_any (xs ys : List Int) (a b : Option Addr) (ca cb : Nat) (w : World) (hx : IntsAt .i64 w a xs) (hy : IntsAt .i64 w b ys) (hl : xs.length ≤ maxLen) (hl2 : ys.length ≤ maxLen) :
    Calls Tryd.prog 17 #[.slice a xs.length ca, .slice b ys.length cb] w fun e w' => e = .returned (.bool (shorterB xs ys)) ∧ ∃ n, w' = w.drewN n := by
  unfold maxLen at hl hl2
  by_cases hne : xs.length = ys.length
  · have HX := Lib.hid hx; clear hx
    have HY := Lib.hid hy; clear hy
    have HR := Lib.hid (show shorterB xs ys = lexLtB xs ys by unfold shorterB; rw [if_pos hne])
    rw [← hne]
    have HNE := Lib.hid hne; clear hne
    go_enter Tryd.func17, Tryd.ntmps17
    go_wp2_with fail
    go_loopw [5] (fun i wr => ∃ k nq : Nat, i = .int .i64 k ∧ k ≤ xs.length ∧ RowKit.Hid (lexLtB xs ys = lexLtB (xs.drop k) (ys.drop k)) ∧ wr = w.drewN nq) (fun i _ => xs.length - (intOf i).toNat)
    case atStart => exact ⟨0, 0, rfl, by omega, Lib.hid (by simp), (drewN_zero w).symm⟩
    case round =>
      obtain ⟨k, nq, rfl, hk, HT, rfl⟩ := hrel
      by_cases hlt : k < xs.length
      · obtain ⟨b1, o1, rfl, hc1⟩ := HX.out k hlt
        obtain ⟨b2, o2, rfl, hc2⟩ := HY.out k (by rw [← HNE.out]; exact hlt)
        have HTS := Lib.hid (HT.out.trans (lexLtB_step hlt (by rw [← HNE.out]; exact hlt)))
        obtain ⟨x, hx⟩ : ∃ x, x = xs.getD k 0 := ⟨_, rfl⟩
        obtain ⟨y, hy⟩ : ∃ y, y = ys.getD k 0 := ⟨_, rfl⟩
        rw [← hx, ← hy] at HTS
        rw [← hx] at hc1
        rw [← hy] at hc2
        clear hx hy
        by_cases hxy : x = y
        · subst hxy
          have hb : (x != x) = false := by simp
          go_wp2_with fail
          go_quiet (fail)
          go_wp2_with fail
          go_roundw
          case rel => exact ⟨k + 1, _, by go_num, by omega, Lib.hid (by rw [HTS.out]; simp), rfl⟩
          case measure => simp [intOf]; omega
        · have hb : (x != y) = true := by rw [bne_iff_ne]; exact hxy
          have HE := Lib.hid (show shorterB xs ys = decide (x < y) by rw [HR.out, HTS.out, if_neg hxy])
          by_cases hxl : x < y
          · have hd : decide (x < y) = true := by rw [decide_eq_true_iff]; exact hxl
            rw [hd] at HE
            go_wp2_with fail
            go_quiet (fail)
            go_wp2_with fail
            go_quiet (fail)
            go_wp2_with fail
            go_ret
            exact ⟨by rw [HE.out]; rfl, _, by rw [drewN_drewN]; exact drewN_drewN _ _ _⟩
          · have hd : decide (x < y) = false := by rw [decide_eq_false_iff_not]; exact hxl
            rw [hd] at HE
            go_wp2_with fail
            go_quiet (fail)
            go_wp2_with fail
            go_quiet (fail)
            go_wp2_with fail
            go_ret
            exact ⟨by rw [HE.out]; rfl, _, by rw [drewN_drewN]; exact drewN_drewN _ _ _⟩
      · obtain rfl : k = xs.length := by omega
        have HE := Lib.hid (show shorterB xs ys = false by rw [HR.out, HT.out, lexLtB_end])
        go_wp2_with fail
        go_ret
        exact ⟨by rw [HE.out]; rfl, _, rfl⟩
  · have HE := Lib.hid (show shorterB xs ys = decide (xs.length < ys.length) by unfold shorterB; rw [if_neg hne])
    have hb : ((xs.length : Int) != (ys.length : Int)) = true := by rw [bne_iff_ne]; omega
    have hb2 : ((xs.length : Int) == (ys.length : Int)) = false := by rw [beq_eq_false_iff_ne]; omega
    have HNE := Lib.hid hne; clear hne
    by_cases hxl : xs.length < ys.length
    · have hd : decide (xs.length < ys.length) = true := by rw [decide_eq_true_iff]; exact hxl
      rw [hd] at HE
      go_enter Tryd.func17, Tryd.ntmps17
      go_wp2_with fail
      go_ret
      exact ⟨by rw [HE.out]; rfl, 0, (drewN_zero w).symm⟩
    · have hd : decide (xs.length < ys.length) = false := by rw [decide_eq_false_iff_not]; exact hxl
      rw [hd] at HE
      go_enter Tryd.func17, Tryd.ntmps17
      go_wp2_with fail
      go_ret
      exact ⟨by rw [HE.out]; rfl, 0, (drewN_zero w).symm⟩
end Go.Proofs.YtfdjnofkoegbdaaDoor
