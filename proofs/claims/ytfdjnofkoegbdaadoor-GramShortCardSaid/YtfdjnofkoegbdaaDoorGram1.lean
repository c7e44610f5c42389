/- gram.Check. No conditions. -/
import Derived.Test.YtfdjnofkoegbdaaDoorRows
import Derived.Test.YtfdjnofkoegbdaaDoorGramP
import Derived.Test.YtfdjnofkoegbdaaDoorRows3
import Derived.Deep.QuietTactic
import Derived.BigQuiet
namespace Go.Proofs.YtfdjnofkoegbdaaDoor
open Go.RowKit Go.Mine Go.Mine.Gram

set_option maxHeartbeats 2000000 in
theorem gcheck_any (g : List (List (List Int))) (go' : Option Addr) (gc : Nat) (W : World) (hx : GridAt W go' g) (hl : g.length ≤ maxLen) :
    Calls Tryd.prog 11 #[.slice go' g.length gc] W fun e w' => ((gok g ∧ e = .returned .nilIface) ∨ (¬ gok g ∧ e = .returned (.iface 30 (.int .i64 (gfault g))))) ∧ W = w' := by
  unfold maxLen at hl
  by_cases h1 : g.length < 1
  · have HF := Lib.hid (show gfault g = 1 by unfold gfault; rw [if_pos (.inl h1)])
    have HNO := Lib.hid (show ¬ gok g by rintro ⟨h, _⟩; omega)
    clear hx
    go_enter Tryd.func11, Tryd.ntmps11
    go_wp2_with fail
    go_ret
    exact ⟨.inr ⟨HNO.out, by rw [HF.out]; rfl⟩, rfl⟩
  · by_cases h2 : 5 < g.length
    · have HF := Lib.hid (show gfault g = 1 by unfold gfault; rw [if_pos (.inr h2)])
      have HNO := Lib.hid (show ¬ gok g by rintro ⟨_, h, _⟩; omega)
      clear hx
      go_enter Tryd.func11, Tryd.ntmps11
      go_wp2_with fail
      go_ret
      exact ⟨.inr ⟨HNO.out, by rw [HF.out]; rfl⟩, rfl⟩
    · have HX := Lib.hid hx
      have HOKK := Lib.hid (show (∀ j, j < g.length → nf g.length (g.getD j []) = 0) → gok g from fun h => gfault_zero.1 (by unfold gfault; rw [if_neg (by omega)]; exact sf_zero.2 h))
      have HBAD := Lib.hid (show ∀ k, k < g.length → (∀ j, j < k → nf g.length (g.getD j []) = 0) → nf g.length (g.getD k []) ≠ 0 → ¬ gok g ∧ gfault g = nf g.length (g.getD k []) from fun k hk ha hn => by
        have e : gfault g = nf g.length (g.getD k []) := by unfold gfault; rw [if_neg (by omega)]; exact sf_at hk ha hn
        exact ⟨fun h => hn (by rw [← e]; exact gfault_zero.2 h), e⟩)
      clear hx
      obtain ⟨n, hn⟩ : ∃ n, n = g.length := ⟨_, rfl⟩
      rw [← hn] at HOKK HBAD h1 h2 hl
      have HN := Lib.hid hn
      have hHX : ∀ j, j < n → _ := fun j hj => HX.out j (by rw [← hn]; exact hj)
      have HXN := Lib.hid hHX
      rw [← hn]
      clear hn hHX HX
      go_enter Tryd.func11, Tryd.ntmps11
      go_wp2_with fail
      go_loop [20] (fun kv => ∃ k : Nat, kv = .int .i64 k ∧ k ≤ n ∧ RowKit.Hid (∀ j, j < k → nf n (g.getD j []) = 0)) (fun kv => n - (intOf kv).toNat)
      case atStart => exact ⟨0, rfl, by omega, Lib.hid (fun j hj => by omega)⟩
      case round =>
        obtain ⟨k, rfl, hk, hall⟩ := hrel
        by_cases hlt : k < n
        · obtain ⟨b, o, ro, rc, rfl, hc, hrows, hrl, _, _⟩ := HXN.out k hlt
          have HBD := Lib.hid (HBAD.out k hlt hall.out)
          obtain ⟨rs, hrs⟩ : ∃ rs, rs = g.getD k [] := ⟨_, rfl⟩
          rw [← hrs] at hc hrows hrl HBD
          have HNX := Lib.hid (show nf n rs = 0 → ∀ j, j < k + 1 → nf n (g.getD j []) = 0 from fun h j hj => by
            by_cases e : j = k
            · subst e; rw [← hrs]; exact h
            · exact hall.out j (by omega))
          have HR := Lib.hid hrows
          unfold maxLen at hrl
          clear hrows hrs hall
          by_cases h6 : 6 < rs.length
          · have HF := Lib.hid (show nf n rs = 4 by unfold nf; rw [if_pos h6])
            have HE := Lib.hid (HBD.out (by rw [HF.out]; decide))
            clear HBD
            go_wp2_with fail
            go_ret
            exact ⟨.inr ⟨HE.out.1, by rw [HE.out.2, HF.out]; rfl⟩, rfl⟩
          · have HRB := Lib.hid (show ∀ q, q < rs.length → (∀ j, j < q → rf n (rs.getD j []) = 0) → rf n (rs.getD q []) ≠ 0 → ¬ gok g ∧ gfault g = rf n (rs.getD q []) from fun q hq ha hn0 => by
              have e : nf n rs = rf n (rs.getD q []) := by unfold nf; rw [if_neg h6]; exact ff_at hq ha hn0
              rw [← e]
              exact HBD.out (by rw [e]; exact hn0))
            have HRK := Lib.hid (show (∀ j, j < rs.length → rf n (rs.getD j []) = 0) → ∀ j, j < k + 1 → nf n (g.getD j []) = 0 from fun h => HNX.out (by unfold nf; rw [if_neg h6]; exact ff_zero.2 h))
            clear HBD HNX
            go_wp2_with fail
            go_loop [30] (fun qv => ∃ q : Nat, qv = .int .i64 q ∧ q ≤ rs.length ∧ RowKit.Hid (∀ j, j < q → rf n (rs.getD j []) = 0)) (fun qv => rs.length - (intOf qv).toNat)
            case atStart => exact ⟨0, rfl, by omega, Lib.hid (fun j hj => by omega)⟩
            case round =>
              obtain ⟨q, rfl, hq, hall⟩ := hrel
              by_cases hqt : q < rs.length
              · obtain ⟨b2, o2, so, sc, rfl, hc2, hints, hsl, _, _⟩ := HR.out q hqt
                have HBD := Lib.hid (HRB.out q hqt hall.out)
                obtain ⟨r, hr⟩ : ∃ r, r = rs.getD q [] := ⟨_, rfl⟩
                rw [← hr] at hc2 hints hsl HBD
                have HNX := Lib.hid (show rf n r = 0 → ∀ j, j < q + 1 → rf n (rs.getD j []) = 0 from fun h j hj => by
                  by_cases e : j = q
                  · subst e; rw [← hr]; exact h
                  · exact hall.out j (by omega))
                have HI := Lib.hid hints
                unfold maxLen at hsl
                clear hints hr hall
                by_cases h4 : 4 < r.length
                · have HF := Lib.hid (show rf n r = 4 by unfold rf; rw [if_pos h4])
                  have HE := Lib.hid (HBD.out (by rw [HF.out]; decide))
                  clear HBD
                  go_wp2_with fail
                  go_ret
                  exact ⟨.inr ⟨HE.out.1, by rw [HE.out.2, HF.out]; rfl⟩, rfl⟩
                · have HRB1 := Lib.hid (show (¬ ∀ x ∈ r, -(n : Int) ≤ x ∧ x ≤ 2) → ¬ gok g ∧ gfault g = 1 from fun hno => by
                    have e : rf n r = 1 := by unfold rf; rw [if_neg h4, if_neg hno]
                    rw [← e]
                    exact HBD.out (by rw [e]; decide))
                  have HRK1 := Lib.hid (show (∀ x ∈ r, -(n : Int) ≤ x ∧ x ≤ 2) → ∀ j, j < q + 1 → rf n (rs.getD j []) = 0 from fun h => HNX.out (by unfold rf; rw [if_neg h4, if_pos h]))
                  clear HBD HNX
                  go_wp2_with fail
                  go_loop [40] (fun iv => ∃ i : Nat, iv = .int .i64 i ∧ i ≤ r.length ∧ RowKit.Hid (∀ j, j < i → -(n : Int) ≤ r.getD j 0 ∧ r.getD j 0 ≤ 2)) (fun iv => r.length - (intOf iv).toNat)
                  case atStart => exact ⟨0, rfl, by omega, Lib.hid (fun j hj => by omega)⟩
                  case round =>
                    obtain ⟨i, rfl, hi, hall⟩ := hrel
                    by_cases hit : i < r.length
                    · obtain ⟨b3, o3, rfl, hc3⟩ := HI.out i hit
                      have hmem : r.getD i 0 ∈ r := by simp [hit]
                      obtain ⟨x, hx⟩ : ∃ x, x = r.getD i 0 := ⟨_, rfl⟩
                      rw [← hx] at hc3 hmem
                      have HM := Lib.hid hmem
                      have HXX := Lib.hid hx
                      clear hx hmem
                      have hneg : IntKind.i64.wrap (-(n : Int)) = -(n : Int) := by rw [IntKind.wrap_i64]; omega
                      by_cases g1 : x < -(n : Int)
                      · have HE := Lib.hid (HRB1.out (fun h => by have := h x HM.out; omega))
                        clear hall
                        go_wp2_with fail
                        go_ret
                        exact ⟨.inr ⟨HE.out.1, by rw [HE.out.2]; rfl⟩, rfl⟩
                      · by_cases g2 : 2 < x
                        · have HE := Lib.hid (HRB1.out (fun h => by have := h x HM.out; omega))
                          clear hall
                          go_wp2_with fail
                          go_ret
                          exact ⟨.inr ⟨HE.out.1, by rw [HE.out.2]; rfl⟩, rfl⟩
                        · go_wp2_with fail
                          go_round
                          case rel =>
                            refine ⟨i + 1, by go_num, by omega, Lib.hid (fun j hj => ?_)⟩
                            by_cases e : j = i
                            · subst e; rw [← HXX.out]; omega
                            · exact hall.out j (by omega)
                          case measure => simp [intOf]; omega
                    · have HK := Lib.hid (HRK1.out (fun x hx => by
                        obtain ⟨l, hl, rfl⟩ := List.mem_iff_getElem.1 hx
                        have := hall.out l (by omega)
                        simpa [hl] using this))
                      clear hall
                      go_wp2_with fail
                      go_round
                      case rel => exact ⟨q + 1, by go_num, by omega, HK⟩
                      case measure => simp [intOf]; omega
              · have HK := Lib.hid (HRK.out (fun j hj => hall.out j (by omega)))
                clear hall
                go_wp2_with fail
                go_round
                case rel => exact ⟨k + 1, by go_num, by omega, HK⟩
                case measure => simp [intOf]; omega
        · have HK := Lib.hid (HOKK.out (fun j hj => hall.out j (by omega)))
          clear hall
          go_wp2_with fail
          go_ret
          exact ⟨.inl ⟨HK.out, rfl⟩, rfl⟩
end Go.Proofs.YtfdjnofkoegbdaaDoor
