/- assayerref2.RuleFault, Fits. No conditions. -/
import Derived.Test.YtpmfpegjkfnnkaaDoorTable3
namespace Go.Proofs.YtpmfpegjkfnnkaaDoor
open Go.RowKit Go.Mine Go.Mine.Table

theorem bit_val {t k : Nat} {b : Bool} (h : t.testBit k = b) : bit t k = if b then 1 else 0 := by unfold bit; rw [h]

set_option maxHeartbeats 1000000 in
theorem qfits_any (r : Rl) (t : Nat) (ht : t < 64) (hl6 : r.when.length ≤ 6) (hr : ∀ z ∈ r.when, -1 ≤ z ∧ z ≤ 1) (W : World) (hx : IntsAt .i64 W r.sa r.when) :
    Calls Tryd.prog 16 #[rv r, .int .i64 t] W fun e w' => e = .returned (.bool (fits r.when t)) ∧ Below W.heap.size W w' := by
  obtain ⟨sa, sc, ws, d⟩ := r
  unfold rv
  dsimp only at hl6 hx hr ⊢
  have hb1 : Below W.heap.size W (W.alloc (.cells #[.slice sa ws.length sc, .int .i64 d] 35)) := (Below.refl _ _).alloc (Nat.le_refl _) _
  have HX := Lib.hid (hx.below (Nat.le_refl _) hb1)
  have HR := Lib.hid hr
  have HB1 := Lib.hid hb1
  clear hx hr hb1
  go_enter Tryd.func16, Tryd.ntmps16
  go_wp2_with fail
  go_loop [5] (fun kv => ∃ k : Nat, kv = .int .i64 k ∧ k ≤ ws.length ∧ RowKit.Hid (∀ j, j < k → ws.getD j 0 < 0 ∨ ws.getD j 0 = bit t j)) (fun kv => ws.length - (intOf kv).toNat)
  case atStart => exact ⟨0, rfl, by omega, Lib.hid (fun j hj => by omega)⟩
  case round =>
    obtain ⟨k, rfl, hk, hall⟩ := hrel
    by_cases hlt : k < ws.length
    · obtain ⟨b, o, rfl, hc⟩ := HX.out k hlt
      have hrk := HR.out (ws.getD k 0) (by simp [hlt])
      have HSO := Lib.hid (fun w => so_any t k ht (by omega) w)
      obtain ⟨tb, htb⟩ : ∃ tb, t.testBit k = tb := ⟨_, rfl⟩
      have HBV := Lib.hid (bit_val htb)
      rw [htb] at HSO
      obtain ⟨w, hw⟩ : ∃ w, w = ws.getD k 0 := ⟨_, rfl⟩
      rw [← hw] at hc hrk
      have HW := Lib.hid hw
      have hcs : w = -1 ∨ w = 0 ∨ w = 1 := by omega
      have HN := Lib.hid (show (w < 0 ∨ w = bit t k) → ∀ j, j < k + 1 → ws.getD j 0 < 0 ∨ ws.getD j 0 = bit t j from fun hok j hj => by
        by_cases e : j = k
        · subst e; rw [← HW.out]; exact hok
        · exact hall.out j (by omega))
      have HNO := Lib.hid (show ¬ (w < 0 ∨ w = bit t k) → fits ws t = false from fun hok => by
        cases hf : fits ws t with
        | false => rfl
        | true => have := fits_iff.1 hf k hlt; rw [← HW.out] at this; exact absurd this hok)
      clear hw hrk htb hall
      rcases hcs with rfl | rfl | rfl
      · have H1 := Lib.hid (HN.out (.inl (by decide)))
        go_wp2_with fail
        go_round
        case rel => exact ⟨k + 1, by go_num, by omega, H1⟩
        case measure => simp [intOf]; omega
      · cases tb
        · have H1 := Lib.hid (HN.out (.inr (by rw [HBV.out]; rfl)))
          go_wp2_with (go_at_call 25; refine (HSO.out _).mono ?_; rintro e w' ⟨rfl, rfl⟩)
          go_round
          case rel => exact ⟨k + 1, by go_num, by omega, H1⟩
          case measure => simp [intOf]; omega
        · have H1 := Lib.hid (HNO.out (by rw [HBV.out]; decide))
          go_wp2_with (go_at_call 25; refine (HSO.out _).mono ?_; rintro e w' ⟨rfl, rfl⟩)
          go_ret
          exact ⟨by rw [H1.out]; rfl, HB1.out⟩
      · cases tb
        · have H1 := Lib.hid (HNO.out (by rw [HBV.out]; decide))
          go_wp2_with (go_at_call 25; refine (HSO.out _).mono ?_; rintro e w' ⟨rfl, rfl⟩)
          go_ret
          exact ⟨by rw [H1.out]; rfl, HB1.out⟩
        · have H1 := Lib.hid (HN.out (.inr (by rw [HBV.out]; rfl)))
          go_wp2_with (go_at_call 25; refine (HSO.out _).mono ?_; rintro e w' ⟨rfl, rfl⟩)
          go_round
          case rel => exact ⟨k + 1, by go_num, by omega, H1⟩
          case measure => simp [intOf]; omega
    · have hke : k = ws.length := by omega
      subst hke
      have HY := Lib.hid (show fits ws t = true from fits_iff.2 hall.out)
      go_wp2_with fail
      go_ret
      exact ⟨by rw [HY.out]; rfl, HB1.out⟩

set_option maxHeartbeats 1000000 in
theorem rulefault_any (n : Int) (rs : List Rl) (lo : Option Addr) (lc : Nat) (W : World) (hx : RulesAt W lo rs) (hl : rs.length ≤ maxLen) :
    Calls Tryd.prog 14 #[.int .i64 n, .slice lo rs.length lc] W fun e w' => e = .returned (.int .i64 (tfault n (rs.map Rl.when))) ∧ W = w' := by
  unfold maxLen at hl
  have hml : (rs.map Rl.when).length = rs.length := by simp
  by_cases h1 : n < 1
  · have HF := Lib.hid (show tfault n (rs.map Rl.when) = 1 by unfold tfault; rw [if_pos (.inl h1)])
    clear hml hx
    go_enter Tryd.func14, Tryd.ntmps14
    go_wp2_with fail
    go_ret
    exact ⟨by rw [HF.out]; rfl, rfl⟩
  · by_cases h2 : 6 < n
    · have HF := Lib.hid (show tfault n (rs.map Rl.when) = 1 by unfold tfault; rw [if_pos (.inr h2)])
      clear hml hx
      go_enter Tryd.func14, Tryd.ntmps14
      go_wp2_with fail
      go_ret
      exact ⟨by rw [HF.out]; rfl, rfl⟩
    · obtain ⟨m, rfl⟩ : ∃ m : Nat, n = m := ⟨n.toNat, by omega⟩
      by_cases h3 : 12 < rs.length
      · have HF := Lib.hid (show tfault m (rs.map Rl.when) = 4 by unfold tfault; rw [if_neg (by omega), if_pos (by rw [hml]; exact h3)])
        clear hml hx
        go_enter Tryd.func14, Tryd.ntmps14
        go_wp2_with fail
        go_ret
        exact ⟨by rw [HF.out]; rfl, rfl⟩
      · have HX := Lib.hid hx
        have HBAD := Lib.hid (show ∀ k, k < rs.length → (∀ j, j < k → rf m ((rs.map Rl.when).getD j []) = 0) → rf m ((rs.map Rl.when).getD k []) ≠ 0 → tfault m (rs.map Rl.when) = rf m ((rs.map Rl.when).getD k []) from fun k hk ha hn => by
          unfold tfault
          rw [if_neg (by omega), if_neg (by omega), Int.toNat_natCast]
          exact ff_at (by omega) ha hn)
        have HOKK := Lib.hid (show (∀ j, j < rs.length → rf m ((rs.map Rl.when).getD j []) = 0) → tfault m (rs.map Rl.when) = 0 from fun h => tfault_ok ⟨m, rfl, by omega, by omega, by omega, fun j hj => h j (by omega)⟩)
        clear hml hx
        go_enter Tryd.func14, Tryd.ntmps14
        go_wp2_with fail
        go_loop [5] (fun kv => ∃ k : Nat, kv = .int .i64 k ∧ k ≤ rs.length ∧ RowKit.Hid (∀ j, j < k → rf m ((rs.map Rl.when).getD j []) = 0)) (fun kv => rs.length - (intOf kv).toNat)
        case atStart => exact ⟨0, rfl, by omega, Lib.hid (fun j hj => by omega)⟩
        case round =>
          obtain ⟨k, rfl, hk, hall⟩ := hrel
          by_cases hlt : k < rs.length
          · obtain ⟨b, o, rfl, c1, c2, hw, hwl⟩ := HX.out k hlt
            have hbad := HBAD.out k hlt hall.out
            have hwg := when_get hlt
            obtain ⟨r, hr⟩ : ∃ r, r = rs.getD k default := ⟨_, rfl⟩
            rw [← hr] at c1 c2 hw hwl hwg
            rw [hwg] at hbad
            obtain ⟨sa, sc, ws, d⟩ := r
            dsimp only at c1 c2 hw hwl hwg hbad
            unfold maxLen at hwl
            have HBD := Lib.hid hbad
            have HNX := Lib.hid (show rf m ws = 0 → ∀ j, j < k + 1 → rf m ((rs.map Rl.when).getD j []) = 0 from fun h j hj => by
              by_cases e : j = k
              · subst e; rw [hwg]; exact h
              · exact hall.out j (by omega))
            have HWS := Lib.hid hw
            clear hbad hwg hr hw hall
            by_cases hlen : ws.length = m
            · have hne : ((ws.length : Int) != (m : Int)) = false := by rw [hlen]; simp
              have HLEN := Lib.hid hlen
              have hlen' : m ≤ ws.length ∧ ws.length ≤ m := by omega
              clear hlen
              go_wp2_with fail
              go_loop [6] (fun jv => ∃ j : Nat, jv = .int .i64 j ∧ j ≤ m ∧ RowKit.Hid (∀ l, l < j → -1 ≤ ws.getD l 0 ∧ ws.getD l 0 ≤ 1)) (fun jv => m - (intOf jv).toNat)
              case atStart => exact ⟨0, rfl, by omega, Lib.hid (fun l hl => by omega)⟩
              case round =>
                obtain ⟨j, rfl, hj, hin⟩ := hrel
                by_cases hjm : j < m
                · obtain ⟨b1, o1, rfl, hc⟩ := HWS.out j (by rw [HLEN.out]; exact hjm)
                  have hmem : ws.getD j 0 ∈ ws := by have := HLEN.out; simp [show j < ws.length by omega]
                  obtain ⟨x, hx⟩ : ∃ x, x = ws.getD j 0 := ⟨_, rfl⟩
                  rw [← hx] at hc hmem
                  have HXX := Lib.hid hx
                  have HMM := Lib.hid hmem
                  have hjl : j < ws.length := by omega
                  clear hx hmem
                  by_cases hok : -1 ≤ x ∧ x ≤ 1
                  · have HN := Lib.hid (show ∀ l, l < j + 1 → -1 ≤ ws.getD l 0 ∧ ws.getD l 0 ≤ 1 from fun l hl => by
                      by_cases e : l = j
                      · subst e; rw [← HXX.out]; exact hok
                      · exact hin.out l (by omega))
                    obtain ⟨g1, g2⟩ := hok
                    clear hin
                    go_wp2_with fail
                    go_round
                    case rel => exact ⟨j + 1, by go_num, by omega, HN⟩
                    case measure => simp [intOf]; omega
                  · have HRF := Lib.hid (rf_bad HLEN.out (fun h => hok (h x HMM.out)))
                    have HF := Lib.hid (HBD.out (by rw [HRF.out]; decide))
                    have hcs : x < -1 ∨ (-1 ≤ x ∧ 1 < x) := by omega
                    clear hin hok
                    rcases hcs with g1 | ⟨g1, g2⟩
                    all_goals
                      go_wp2_with fail
                      go_ret
                      exact ⟨by rw [HF.out, HRF.out]; rfl, rfl⟩
                · have HN := Lib.hid (HNX.out (rf_ok HLEN.out (fun z hz => by
                    obtain ⟨l, hl, rfl⟩ := List.mem_iff_getElem.1 hz
                    have := hin.out l (by have := HLEN.out; omega)
                    simpa [hl] using this)))
                  clear hin
                  go_wp2_with fail
                  go_round
                  case rel => exact ⟨k + 1, by go_num, by omega, HN⟩
                  case measure => simp [intOf]; omega
            · have hne : ((ws.length : Int) != (m : Int)) = true := by rw [bne_iff_ne]; omega
              have HF := Lib.hid (HBD.out (by rw [rf_len hlen]; decide))
              have HRF := Lib.hid (rf_len hlen)
              go_wp2_with fail
              go_ret
              exact ⟨by rw [HF.out, HRF.out]; rfl, rfl⟩
          · have hke : k = rs.length := by omega
            subst hke
            have HO := Lib.hid (HOKK.out hall.out)
            go_wp2_with fail
            go_ret
            exact ⟨by rw [HO.out]; rfl, rfl⟩
end Go.Proofs.YtpmfpegjkfnnkaaDoor
