/- cond.Covers. No conditions. -/
import Derived.Test.YtpmfpegjkfnnkaaCond3
namespace Go.Proofs.Ytpmfpegjkfnnkaa
open Go.RowKit Go.Mine Go.Mine.Cond

/-- What Covers tells. -/
def CoversPost (n : Int) (fs : List Bool) (xs : List Int) (e : Ending) : Prop :=
  (¬ cok n fs.length ∧ e = .returned (.tuple #[.bool false, .iface 42 (.int .i64 (cfault n fs.length))])) ∨
  (cok n fs.length ∧ (¬ ∀ x ∈ xs, 0 ≤ x ∧ x < fs.length) ∧ e = .returned (.tuple #[.bool false, .iface 42 (.int .i64 1)])) ∨
  (cok n fs.length ∧ (∀ x ∈ xs, 0 ≤ x ∧ x < fs.length) ∧ ∃ b, e = .returned (.tuple #[.bool b, .nilIface]) ∧ (b = true ↔ Cov n.toNat fs xs))

set_option maxHeartbeats 1000000 in
theorem coversX_any (n : Int) (fs : List Bool) (xs : List Int) (fo to : Option Addr) (fc tc : Nat) (W : World) (hf : BoolsAt W fo fs) (hx : IntsAt .i64 W to xs) (hxl : xs.length ≤ maxLen) :
    Calls Try.prog 7 #[.int .i64 n, .slice fo fs.length fc, .slice to xs.length tc] W fun e w' => CoversPost n fs xs e ∧ Below W.heap.size W w' := by
  have HC := Lib.hid (ccheck_any n fo fs.length fc W)
  by_cases hok : cok n fs.length
  · have HOK := Lib.hid hok
    obtain ⟨m, rfl, hm1, hm6, hl⟩ := hok
    have hfl : fs.length ≤ 64 := by have := pow_le hm6; omega
    have HCV := Lib.hid (fun hr => covers_any m hm1 hm6 fs xs fo to fc tc W hf hx hl hr hxl)
    have HX := Lib.hid hx
    have HXL := Lib.hid hxl
    unfold maxLen at hxl
    clear hf hx hl
    go_enter Try.func7, Try.ntmps7
    go_wp2_with fail
    refine HC.out.mono ?_
    rintro e w' ⟨⟨_, rfl⟩ | ⟨h, _⟩, rfl⟩
    rotate_left
    · exact absurd HOK.out h
    go_wp2_with fail
    go_loop [19] (fun kv => ∃ k : Nat, kv = .int .i64 k ∧ k ≤ xs.length ∧ RowKit.Hid (∀ j, j < k → 0 ≤ xs.getD j 0 ∧ xs.getD j 0 < fs.length)) (fun kv => xs.length - (intOf kv).toNat)
    case atStart => exact ⟨0, rfl, by omega, Lib.hid (fun j hj => by omega)⟩
    case round =>
      obtain ⟨k, rfl, hk, hall⟩ := hrel
      by_cases hlt : k < xs.length
      · obtain ⟨b, o, rfl, hc⟩ := HX.out k hlt
        have hmem : xs.getD k 0 ∈ xs := by simp [hlt]
        obtain ⟨x, hx⟩ : ∃ x, x = xs.getD k 0 := ⟨_, rfl⟩
        rw [← hx] at hc hmem
        have HM := Lib.hid hmem
        have HXX := Lib.hid hx
        clear hx hmem
        by_cases h1 : x < 0
        · have HB := Lib.hid (show ¬ ∀ x ∈ xs, 0 ≤ x ∧ x < fs.length from fun h => by have := h x HM.out; omega)
          go_wp2_with fail
          go_ret2
          exact ⟨.inr (.inl ⟨HOK.out, HB.out, rfl⟩), Below.refl _ _⟩
        · by_cases h2 : (fs.length : Int) ≤ x
          · have HB := Lib.hid (show ¬ ∀ x ∈ xs, 0 ≤ x ∧ x < fs.length from fun h => by have := h x HM.out; omega)
            go_wp2_with fail
            go_ret2
            exact ⟨.inr (.inl ⟨HOK.out, HB.out, rfl⟩), Below.refl _ _⟩
          · go_wp2_with fail
            go_round
            case rel =>
              refine ⟨k + 1, by go_num, by omega, Lib.hid (fun j hj => ?_)⟩
              by_cases e : j = k
              · subst e; rw [← HXX.out]; omega
              · exact hall.out j (by omega)
            case measure => simp [intOf]; omega
      · have hr : ∀ x ∈ xs, 0 ≤ x ∧ x < (fs.length : Int) := fun x hx => by
          obtain ⟨j, hj, rfl⟩ := List.mem_iff_getElem.1 hx
          have := hall.out j (by omega)
          simpa [hj] using this
        have HR := Lib.hid hr
        have HCC := Lib.hid (HCV.out hr)
        clear hr hall
        go_wp2_with fail
        refine HCC.out.mono ?_
        rintro e w' ⟨⟨b, rfl, hb⟩, hbel⟩
        have HB := Lib.hid hb
        clear hb
        go_wp2_with fail
        go_ret2
        exact ⟨.inr (.inr ⟨HOK.out, HR.out, b, rfl, by rw [Int.toNat_natCast]; exact HB.out⟩), hbel⟩
  · have HOK := Lib.hid hok
    clear hok
    go_enter Try.func7, Try.ntmps7
    go_wp2_with fail
    refine HC.out.mono ?_
    rintro e w' ⟨⟨h, _⟩ | ⟨_, rfl⟩, rfl⟩
    · exact absurd h HOK.out
    · go_wp2_with fail
      go_ret2
      exact ⟨.inl ⟨HOK.out, rfl⟩, Below.refl _ _⟩

end Go.Proofs.Ytpmfpegjkfnnkaa
