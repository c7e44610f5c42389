/- slices.IndexFunc, ContainsFunc at []api.Rule. No conditions. -/
import Derived.Test.YtpmfpegjkfnnkaaTable1
namespace Go.Proofs.Ytpmfpegjkfnnkaa
open Go.RowKit Go.Mine Go.Mine.Table

/-- A rule as a value. -/
def rv (r : Rl) : Value := .agg #[.slice r.sa r.when.length r.cap, .int .i64 r.to]
/-- The function value gives p; what lay stays. -/
def GivesR (g : Nat) (lb : Array Value) (w : World) (p : Rl → Bool) (rs : List Rl) : Prop :=
  ∀ r ∈ rs, ∀ w', Below w.heap.size w w' → Calls Try.prog g (#[rv r] ++ lb) w' fun e w'' => e = .returned (.bool (p r)) ∧ Below w'.heap.size w' w''

set_option maxHeartbeats 1000000 in
theorem idxR_any (rs : List Rl) (ao : Option Addr) (c : Nat) (w : World) (hx : RulesAt w ao rs) (hl : rs.length ≤ maxLen) (g : Nat) (lb : Array Value) (p : Rl → Bool)
    (hrun : ∀ v w, Sem.run Try.prog (callFunc g (#[v] ++ lb)) w = .ok (.enter g (#[v] ++ lb)) w) (hp : GivesR g lb w p rs) :
    Calls Try.prog 12 #[.slice ao rs.length c, .func (.func g) #[] lb] w fun e w' => (∃ z, e = .returned (.int .i64 z) ∧ ((z = -1 ∧ ∀ r ∈ rs, p r = false) ∨ (∃ k : Nat, z = k ∧ k < rs.length ∧ p (rs.getD k default) = true ∧ ∀ j, j < k → p (rs.getD j default) = false))) ∧ Below w.heap.size w w' := by
  unfold maxLen at hl
  have HX := Lib.hid hx; clear hx
  have HP := Lib.hid hp; clear hp
  go_enter Try.func12, Try.ntmps12
  go_wp2_with fail
  go_loopw [8] (fun i wr => ∃ k : Nat, i = .int .i64 k ∧ k ≤ rs.length ∧ RowKit.Hid (∀ j, j < k → p (rs.getD j default) = false) ∧ Below w.heap.size w wr) (fun i _ => rs.length - (intOf i).toNat)
  case atStart => exact ⟨0, rfl, by omega, Lib.hid (fun j hj => by omega), Below.refl _ _⟩
  case round =>
    obtain ⟨k, rfl, hk, hall, hb⟩ := hrel
    by_cases hlt : k < rs.length
    · obtain ⟨b, o, rfl, c1, c2, _, _⟩ := (HX.out.below (Nat.le_refl _) hb) k hlt
      have hmem : rs.getD k default ∈ rs := by simp [hlt]
      obtain ⟨r, hr⟩ : ∃ r, r = rs.getD k default := ⟨_, rfl⟩
      rw [← hr] at c1 c2 hmem
      obtain ⟨v, hv⟩ : ∃ v, v = p r := ⟨_, rfl⟩
      have HPZ := HP.out r hmem wr hb
      have HB := Lib.hid hb
      rw [← hv] at HPZ
      unfold rv at HPZ
      have HR := Lib.hid hr
      have HV := Lib.hid hv
      clear hr hv hmem hb
      go_wp2_with fail
      refine HPZ.mono ?_
      clear HPZ
      rintro e w' ⟨rfl, hb'⟩
      have HB2 := Lib.hid (HB.out.trans (hb'.mono HB.out.size))
      clear hb'
      cases v
      · go_wp2_with fail
        go_roundw
        case rel =>
          refine ⟨k + 1, by go_num, by omega, Lib.hid (fun j hj => ?_), HB2.out⟩
          by_cases e : j = k
          · subst e; rw [← HR.out, ← HV.out]
          · exact hall.out j (by omega)
        case measure => simp [intOf]; omega
      · go_wp2_with fail
        go_ret
        exact ⟨⟨_, rfl, .inr ⟨k, rfl, hlt, by rw [← HR.out, ← HV.out], hall.out⟩⟩, HB2.out⟩
    · have hke : k = rs.length := by omega
      subst hke
      go_wp2_with fail
      go_ret
      refine ⟨⟨_, rfl, .inl ⟨rfl, fun r hr => ?_⟩⟩, hb⟩
      obtain ⟨j, hj, rfl⟩ := List.mem_iff_getElem.1 hr
      have := hall.out j hj
      simpa [hj] using this
theorem ctnR_any (rs : List Rl) (ao : Option Addr) (c : Nat) (w : World) (hx : RulesAt w ao rs) (hl : rs.length ≤ maxLen) (g : Nat) (lb : Array Value) (p : Rl → Bool)
    (hrun : ∀ v w, Sem.run Try.prog (callFunc g (#[v] ++ lb)) w = .ok (.enter g (#[v] ++ lb)) w) (hp : GivesR g lb w p rs) :
    Calls Try.prog 9 #[.slice ao rs.length c, .func (.func g) #[] lb] w fun e w' => e = .returned (.bool (rs.any p)) ∧ Below w.heap.size w w' := by
  have H := idxR_any rs ao c w hx hl g lb p hrun hp
  clear hrun hp
  unfold maxLen at hl
  go_enter Try.func9, Try.ntmps9
  go_wp2_with fail
  refine H.mono ?_
  clear H
  rintro e w' ⟨⟨z, rfl, hz⟩, hb⟩
  have HB := Lib.hid hb
  clear hb
  rcases hz with ⟨rfl, hz⟩ | ⟨k, rfl, hk, hz, _⟩
  · have HE := Lib.hid (show rs.any p = false by rw [List.any_eq_false]; exact fun x hx => by rw [hz x hx]; simp)
    clear hz
    go_wp2_with fail
    go_ret
    exact ⟨by rw [HE.out]; rfl, HB.out⟩
  · have HE := Lib.hid (show rs.any p = true from List.any_eq_true.2 ⟨rs.getD k default, by simp [hk], hz⟩)
    clear hz
    go_wp2_with fail
    go_ret
    exact ⟨by rw [HE.out]; rfl, HB.out⟩
end Go.Proofs.Ytpmfpegjkfnnkaa
