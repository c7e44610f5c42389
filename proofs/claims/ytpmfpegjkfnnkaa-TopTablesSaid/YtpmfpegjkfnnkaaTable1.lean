/- table.Check, fits. No conditions. -/
import Derived.Test.YtpmfpegjkfnnkaaRows
import Derived.Test.YtpmfpegjkfnnkaaTableP
import Derived.Deep.QuietTactic
import Derived.BigQuiet
namespace Go.Proofs.Ytpmfpegjkfnnkaa
open Go.RowKit Go.Mine Go.Mine.Table

theorem when_get {rs : List Rl} {j : Nat} (h : j < rs.length) : (rs.map Rl.when).getD j [] = (rs.getD j default).when := by simp [h]

set_option maxHeartbeats 1000000 in
theorem tcheck_any (n : Int) (rs : List Rl) (lo : Option Addr) (lc : Nat) (W : World) (hx : RulesAt W lo rs) (hl : rs.length ≤ maxLen) :
    Calls Try.prog 8 #[.int .i64 n, .slice lo rs.length lc] W fun e w' => ((tok n (rs.map Rl.when) ∧ e = .returned .nilIface) ∨ (¬ tok n (rs.map Rl.when) ∧ e = .returned (.iface 42 (.int .i64 (tfault n (rs.map Rl.when)))))) ∧ Below W.heap.size W w' := by
  unfold maxLen at hl
  have hml : (rs.map Rl.when).length = rs.length := by simp
  by_cases h1 : n < 1
  · have HF := Lib.hid (show tfault n (rs.map Rl.when) = 1 by unfold tfault; rw [if_pos (.inl h1)])
    have HNO := Lib.hid (show ¬ tok n (rs.map Rl.when) by rintro ⟨m, rfl, h, _⟩; omega)
    clear hml hx
    go_enter Try.func8, Try.ntmps8
    go_wp2_with fail
    go_ret
    exact ⟨.inr ⟨HNO.out, by rw [HF.out]; rfl⟩, Below.refl _ _⟩
  · by_cases h2 : 6 < n
    · have HF := Lib.hid (show tfault n (rs.map Rl.when) = 1 by unfold tfault; rw [if_pos (.inr h2)])
      have HNO := Lib.hid (show ¬ tok n (rs.map Rl.when) by rintro ⟨m, rfl, _, h, _⟩; omega)
      clear hml hx
      go_enter Try.func8, Try.ntmps8
      go_wp2_with fail
      go_ret
      exact ⟨.inr ⟨HNO.out, by rw [HF.out]; rfl⟩, Below.refl _ _⟩
    · obtain ⟨m, rfl⟩ : ∃ m : Nat, n = m := ⟨n.toNat, by omega⟩
      by_cases h3 : 12 < rs.length
      · have HF := Lib.hid (show tfault m (rs.map Rl.when) = 4 by unfold tfault; rw [if_neg (by omega), if_pos (by rw [hml]; exact h3)])
        have HNO := Lib.hid (show ¬ tok m (rs.map Rl.when) by rintro ⟨_, _, _, _, h, _⟩; omega)
        clear hml hx
        go_enter Try.func8, Try.ntmps8
        go_wp2_with fail
        go_ret
        exact ⟨.inr ⟨HNO.out, by rw [HF.out]; rfl⟩, Below.refl _ _⟩
      · have HX := Lib.hid hx
        have HBAD := Lib.hid (show ∀ k, k < rs.length → (∀ j, j < k → rf m ((rs.map Rl.when).getD j []) = 0) → rf m ((rs.map Rl.when).getD k []) ≠ 0 → ¬ tok m (rs.map Rl.when) ∧ tfault m (rs.map Rl.when) = rf m ((rs.map Rl.when).getD k []) from fun k hk ha hn => by
          refine ⟨?_, ?_⟩
          · rintro ⟨m', hm', _, _, _, h⟩
            obtain rfl : m = m' := by omega
            exact hn (h k (by omega))
          · unfold tfault
            rw [if_neg (by omega), if_neg (by omega), Int.toNat_natCast]
            exact ff_at (by omega) ha hn)
        have HOKK := Lib.hid (show (∀ j, j < rs.length → rf m ((rs.map Rl.when).getD j []) = 0) → tok m (rs.map Rl.when) from fun h => ⟨m, rfl, by omega, by omega, by omega, fun j hj => h j (by omega)⟩)
        clear hml hx
        go_enter Try.func8, Try.ntmps8
        go_wp2_with fail
        go_loopw [22] (fun kv wr => ∃ k : Nat, kv = .int .i64 k ∧ k ≤ rs.length ∧ RowKit.Hid (∀ j, j < k → rf m ((rs.map Rl.when).getD j []) = 0) ∧ Below W.heap.size W wr) (fun kv _ => rs.length - (intOf kv).toNat)
        case atStart => exact ⟨0, rfl, by omega, Lib.hid (fun j hj => by omega), Below.refl _ _⟩
        case round =>
          obtain ⟨k, rfl, hk, hall, hb⟩ := hrel
          by_cases hlt : k < rs.length
          · obtain ⟨b, o, rfl, c1, c2, hw, hwl⟩ := (HX.out.below (Nat.le_refl _) hb) k hlt
            have hsz := hb.size
            have hbad := HBAD.out k hlt hall.out
            have hwg := when_get hlt
            obtain ⟨r, hr⟩ : ∃ r, r = rs.getD k default := ⟨_, rfl⟩
            rw [← hr] at c1 c2 hw hwl hwg
            rw [hwg] at hbad
            obtain ⟨sa, sc, ws, d⟩ := r
            dsimp only at c1 c2 hw hwl hwg hbad
            unfold maxLen at hwl
            have HBD := Lib.hid hbad
            have HNX := Lib.hid (show rf m ws = 0 → ∀ j, j < k + 1 → rf m ((rs.map Rl.when).getD j []) = 0 from fun h j hj => by
              by_cases e : j = k
              · subst e; rw [hwg]; exact h
              · exact hall.out j (by omega))
            have HWS := Lib.hid hw
            have HB := Lib.hid hb
            clear hbad hwg hr hw hall hb
            by_cases hlen : ws.length = m
            · have hne : ((ws.length : Int) != (m : Int)) = false := by rw [hlen]; simp
              obtain ⟨wo, hwo⟩ : ∃ wo : World, wo = wr := ⟨_, rfl⟩
              rw [← hwo] at HWS HB hsz c1 c2 ⊢
              clear hwo wr
              have hba : Below wo.heap.size wo (wo.alloc (.cells #[.slice sa ws.length sc, .int .i64 d] 31)) := (Below.refl _ _).alloc (Nat.le_refl _) _
              have hi0 := HWS.out.below (Nat.le_refl _) hba
              have hb0 := HB.out.alloc hsz (.cells #[.slice sa ws.length sc, .int .i64 d] 31)
              rw [hlen] at hi0 hb0
              have HI0 := Lib.hid hi0
              have HB0 := Lib.hid hb0
              have HLEN := Lib.hid hlen
              clear hi0 hb0 hba
              go_wp2_with fail
              clear c1 c2 hlen
              go_loopw [35] (fun jv wr => ∃ j : Nat, jv = .int .i64 j ∧ j ≤ m ∧ RowKit.Hid (∀ l, l < j → -1 ≤ ws.getD l 0 ∧ ws.getD l 0 ≤ 1) ∧ IntsAt .i64 wr sa ws ∧ Below W.heap.size W wr) (fun jv _ => m - (intOf jv).toNat)
              case atStart => exact ⟨0, rfl, by omega, Lib.hid (fun l hl => by omega), HI0.out, HB0.out⟩
              clear HI0 HB0 HWS HB
              case round =>
                obtain ⟨j, rfl, hj, hin, hiw, hb⟩ := hrel
                by_cases hjm : j < m
                · obtain ⟨b1, o1, rfl, hc⟩ := hiw j (by rw [HLEN.out]; exact hjm)
                  have HIW := Lib.hid hiw
                  have HB := Lib.hid hb
                  have hmem : ws.getD j 0 ∈ ws := by have := HLEN.out; simp [show j < ws.length by omega]
                  obtain ⟨x, hx⟩ : ∃ x, x = ws.getD j 0 := ⟨_, rfl⟩
                  rw [← hx] at hc hmem
                  have HXX := Lib.hid hx
                  have HMM := Lib.hid hmem
                  clear hiw hb hx hmem
                  by_cases hok : -1 ≤ x ∧ x ≤ 1
                  · have HN := Lib.hid (show ∀ l, l < j + 1 → -1 ≤ ws.getD l 0 ∧ ws.getD l 0 ≤ 1 from fun l hl => by
                      by_cases e : l = j
                      · subst e; rw [← HXX.out]; exact hok
                      · exact hin.out l (by omega))
                    obtain ⟨g1, g2⟩ := hok
                    clear hin
                    go_wp2_with fail
                    go_roundw
                    case rel => exact ⟨j + 1, by go_num, by omega, HN, HIW.out, HB.out⟩
                    case measure => simp [intOf]; omega
                  · have HRF := Lib.hid (rf_bad HLEN.out (fun h => hok (h x HMM.out)))
                    have HF := Lib.hid (HBD.out (by rw [HRF.out]; decide))
                    have hcs : x < -1 ∨ (-1 ≤ x ∧ 1 < x) := by omega
                    clear hin hok
                    rcases hcs with g1 | ⟨g1, g2⟩
                    all_goals
                      go_wp2_with fail
                      go_ret
                      exact ⟨.inr ⟨HF.out.1, by rw [HF.out.2, HRF.out]; rfl⟩, HB.out⟩
                · have HN := Lib.hid (HNX.out (rf_ok HLEN.out (fun z hz => by
                    obtain ⟨l, hl, rfl⟩ := List.mem_iff_getElem.1 hz
                    have := hin.out l (by have := HLEN.out; omega)
                    simpa [hl] using this)))
                  have HB := Lib.hid hb
                  clear hin hiw hb
                  go_wp2_with fail
                  go_roundw
                  case rel => exact ⟨k + 1, by go_num, by omega, HN, HB.out⟩
                  case measure => simp [intOf]; omega
            · have hne : ((ws.length : Int) != (m : Int)) = true := by rw [bne_iff_ne]; omega
              have HF := Lib.hid (HBD.out (by rw [rf_len hlen]; decide))
              have HRF := Lib.hid (rf_len hlen)
              have HB2 := Lib.hid (HB.out.alloc hsz (.cells #[.slice sa ws.length sc, .int .i64 d] 31))
              go_wp2_with fail
              go_ret
              exact ⟨.inr ⟨HF.out.1, by rw [HF.out.2, HRF.out]; rfl⟩, HB2.out⟩
          · have hke : k = rs.length := by omega
            subst hke
            have HO := Lib.hid (HOKK.out hall.out)
            go_wp2_with fail
            go_ret
            exact ⟨.inl ⟨HO.out, rfl⟩, hb⟩

theorem bit_and : ∀ i, i < 6 → ∀ t, t < 64 → bits BinOp.and IntKind.i64 (((t : Nat) : Int) / 2 ^ i) 1 = bit t i := by decide +kernel
theorem bit_01 (t i : Nat) : bit t i = 0 ∨ bit t i = 1 := by unfold bit; split <;> simp

set_option maxHeartbeats 1000000 in
theorem fits_any (r : Rl) (t : Nat) (ht : t < 64) (hl6 : r.when.length ≤ 6) (W : World) (hx : IntsAt .i64 W r.sa r.when) :
    Calls Try.prog 11 #[.agg #[.slice r.sa r.when.length r.cap, .int .i64 r.to], .int .i64 t] W fun e w' => e = .returned (.bool (fits r.when t)) ∧ Below W.heap.size W w' := by
  obtain ⟨sa, sc, ws, d⟩ := r
  dsimp only at hl6 hx ⊢
  obtain ⟨w1, hw1⟩ : ∃ w1, w1 = W.alloc (.cells #[.slice sa ws.length sc, .int .i64 d] 31) := ⟨_, rfl⟩
  have hb1 : Below W.heap.size W w1 := by rw [hw1]; exact (Below.refl _ _).alloc (Nat.le_refl _) _
  have HX := Lib.hid (hx.below (Nat.le_refl _) hb1)
  have HB1 := Lib.hid hb1
  clear hx hb1
  go_enter Try.func11, Try.ntmps11
  go_wp2_with fail
  go_loopw [10] (fun kv wr => ∃ k q : Nat, kv = .int .i64 k ∧ k ≤ ws.length ∧ RowKit.Hid (∀ j, j < k → ws.getD j 0 < 0 ∨ ws.getD j 0 = bit t j) ∧ wr = w1.drewN q) (fun kv _ => ws.length - (intOf kv).toNat)
  case atStart => exact ⟨0, 0, rfl, by omega, Lib.hid (fun j hj => by omega), by rw [hw1]; exact (drewN_zero _).symm⟩
  clear hw1
  case round =>
    obtain ⟨k, q, rfl, hk, hall, hwr⟩ := hrel
    by_cases hlt : k < ws.length
    · obtain ⟨b, o, rfl, hc⟩ := HX.out k hlt
      have hb := bit_and k (by omega) t ht
      have h01 := bit_01 t k
      obtain ⟨v, hv⟩ : ∃ v, v = bit t k := ⟨_, rfl⟩
      obtain ⟨w, hw⟩ : ∃ w, w = ws.getD k 0 := ⟨_, rfl⟩
      rw [← hv] at hb h01
      rw [← hw] at hc
      have hc' : wr.cell? ⟨b, o + k, none⟩ = some (.int .i64 w) := by rw [hwr]; exact hc
      have HV := Lib.hid hv
      have HW := Lib.hid hw
      have HWR := Lib.hid hwr
      clear hv hw hc hwr
      by_cases hok : w < 0 ∨ w = v
      · have HN := Lib.hid (show ∀ j, j < k + 1 → ws.getD j 0 < 0 ∨ ws.getD j 0 = bit t j from fun j hj => by
          by_cases e : j = k
          · subst e; rw [← HW.out, ← HV.out]; exact hok
          · exact hall.out j (by omega))
        have hcs : w < 0 ∨ (¬ w < 0 ∧ w = v) := by omega
        clear hall hok
        rcases hcs with h1 | ⟨h1, h2⟩
        case' inr =>
          subst h2
          have hne : (w != w) = false := by simp
        all_goals
          go_wp2_with fail
          go_roundw
        all_goals first
          | exact ⟨k + 1, q, by go_num, by omega, HN, HWR.out⟩
          | (simp [intOf]; omega)
      · have HNO := Lib.hid (show fits ws t = false by
          cases hf : fits ws t with
          | false => rfl
          | true => have := fits_iff.1 hf k hlt; rw [← HW.out, ← HV.out] at this; exact absurd this hok)
        have h1 : ¬ w < 0 := by omega
        have h3 : (w != v) = true := by rw [bne_iff_ne]; omega
        clear hall hok
        go_wp2_with fail
        go_ret
        exact ⟨by rw [HNO.out]; rfl, by first | exact below_drewN HB1.out q | (rw [HWR.out]; exact below_drewN HB1.out q)⟩
    · have hke : k = ws.length := by omega
      subst hke
      have HY := Lib.hid (show fits ws t = true from fits_iff.2 hall.out)
      go_wp2_with fail
      go_ret
      exact ⟨by rw [HY.out]; rfl, by first | exact below_drewN HB1.out q | (rw [hwr]; exact below_drewN HB1.out q)⟩
end Go.Proofs.Ytpmfpegjkfnnkaa
