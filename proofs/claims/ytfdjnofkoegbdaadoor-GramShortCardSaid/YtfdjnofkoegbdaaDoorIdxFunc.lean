/- slices.IndexFunc, ContainsFunc at []int, whatever the function that only reads. No conditions. -/
import Derived.Test.YtfdjnofkoegbdaaDoorRows
import Derived.Test.YtfdjnofkoegbdaaDoorInts
import Derived.Deep.QuietTactic
import Derived.BigQuiet
namespace Go.Proofs.YtfdjnofkoegbdaaDoor
open Go.RowKit Go.Mine

/-- The function value gives p; it reads, and may draw. -/
def Gives (g : Nat) (lb : Array Value) (w : World) (p : Int → Bool) (xs : List Int) : Prop :=
  ∀ x ∈ xs, ∀ n, Calls Tryd.prog g (#[.int .i64 x] ++ lb) (w.drewN n) fun e w' => e = .returned (.bool (p x)) ∧ ∃ m, w' = w.drewN m

set_option maxHeartbeats 600000 in
theorem idxFunc_any (xs : List Int) (ao : Option Addr) (c : Nat) (w : World) (hx : IntsAt .i64 w ao xs) (hl : xs.length ≤ maxLen) (g : Nat) (lb : Array Value) (p : Int → Bool)
    (hrun : ∀ v w, Sem.run Tryd.prog (callFunc g (#[v] ++ lb)) w = .ok (.enter g (#[v] ++ lb)) w) (hp : Gives g lb w p xs) :
    Calls Tryd.prog 30 #[.slice ao xs.length c, .func (.func g) #[] lb] w fun e w' => (∃ z, e = .returned (.int .i64 z) ∧ ((z = -1 ∧ ∀ x ∈ xs, p x = false) ∨ (∃ k : Nat, z = k ∧ k < xs.length ∧ p (xs.getD k 0) = true))) ∧ ∃ m, w' = w.drewN m := by
  unfold maxLen at hl
  have HX := Lib.hid hx; clear hx
  have HP := Lib.hid hp; clear hp
  go_enter Tryd.func30, Tryd.ntmps30
  go_wp2_with fail
  go_loopw [8] (fun i wr => ∃ k nq : Nat, i = .int .i64 k ∧ k ≤ xs.length ∧ RowKit.Hid (∀ j, j < k → p (xs.getD j 0) = false) ∧ wr = w.drewN nq) (fun i _ => xs.length - (intOf i).toNat)
  case atStart => exact ⟨0, 0, rfl, by omega, Lib.hid (fun j hj => by omega), (drewN_zero w).symm⟩
  case round =>
    obtain ⟨k, nq, rfl, hk, hall, rfl⟩ := hrel
    by_cases hlt : k < xs.length
    · obtain ⟨b, o, rfl, hc⟩ := HX.out k hlt
      have hmem : xs.getD k 0 ∈ xs := by simp [hlt]
      obtain ⟨z, hz⟩ : ∃ z, z = xs.getD k 0 := ⟨_, rfl⟩
      obtain ⟨v, hv⟩ : ∃ v, v = p z := ⟨_, rfl⟩
      have HPZ := HP.out z (by rw [hz]; exact hmem) nq
      rw [← hz] at hc
      rw [← hv] at HPZ
      have HZ := Lib.hid hz
      have HV := Lib.hid hv
      clear hz hv hmem
      go_wp2_with fail
      refine HPZ.mono ?_
      clear HPZ
      rintro e w' ⟨rfl, m, rfl⟩
      cases v
      · go_wp2_with fail
        go_roundw
        case rel =>
          refine ⟨k + 1, m, by go_num, by omega, Lib.hid (fun j hj => ?_), rfl⟩
          by_cases e : j = k
          · subst e; rw [← HZ.out, ← HV.out]
          · exact hall.out j (by omega)
        case measure => simp [intOf]; omega
      · go_wp2_with fail
        go_ret
        exact ⟨⟨_, rfl, .inr ⟨k, rfl, hlt, by rw [← HZ.out, ← HV.out]⟩⟩, m, rfl⟩
    · have hke : k = xs.length := by omega
      subst hke
      go_wp2_with fail
      go_ret
      refine ⟨⟨_, rfl, .inl ⟨rfl, fun x hx => ?_⟩⟩, nq, rfl⟩
      obtain ⟨j, hj, rfl⟩ := List.mem_iff_getElem.1 hx
      have := hall.out j hj
      simpa [hj] using this

theorem ctnFunc_any (xs : List Int) (ao : Option Addr) (c : Nat) (w : World) (hx : IntsAt .i64 w ao xs) (hl : xs.length ≤ maxLen) (g : Nat) (lb : Array Value) (p : Int → Bool)
    (hrun : ∀ v w, Sem.run Tryd.prog (callFunc g (#[v] ++ lb)) w = .ok (.enter g (#[v] ++ lb)) w) (hp : Gives g lb w p xs) :
    Calls Tryd.prog 23 #[.slice ao xs.length c, .func (.func g) #[] lb] w fun e w' => e = .returned (.bool (xs.any p)) ∧ ∃ m, w' = w.drewN m := by
  have H := idxFunc_any xs ao c w hx hl g lb p hrun hp
  clear hrun hp
  unfold maxLen at hl
  go_enter Tryd.func23, Tryd.ntmps23
  go_wp2_with fail
  refine H.mono ?_
  clear H
  rintro e w' ⟨⟨z, rfl, hz⟩, m, rfl⟩
  rcases hz with ⟨rfl, hz⟩ | ⟨k, rfl, hk, hz⟩
  · have hE : xs.any p = false := by rw [List.any_eq_false]; exact fun x hx => by rw [hz x hx]; simp
    have HE := Lib.hid hE
    clear hz hE
    go_wp2_with fail
    go_ret
    exact ⟨by rw [HE.out]; rfl, m, rfl⟩
  · have hE : xs.any p = true := List.any_eq_true.2 ⟨xs.getD k 0, by simp [hk], hz⟩
    have HE := Lib.hid hE
    clear hz hE
    go_wp2_with fail
    go_ret
    exact ⟨by rw [HE.out]; rfl, m, rfl⟩
end Go.Proofs.YtfdjnofkoegbdaaDoor
