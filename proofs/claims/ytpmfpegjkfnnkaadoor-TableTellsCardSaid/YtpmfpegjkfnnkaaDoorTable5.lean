/- table.meet, Clash. No conditions. -/
import Derived.Test.YtpmfpegjkfnnkaaDoorTable4
import Derived.StillTailTactics
namespace Go.Proofs.YtpmfpegjkfnnkaaDoor
open Go.RowKit Go.Mine Go.Mine.Table

set_option maxRecDepth 100000 in
set_option maxHeartbeats 1000000 in
theorem meet_any (r s : Rl) (hl : r.when.length = s.when.length) (hl6 : r.when.length ≤ 6) (W : World) (hx : IntsAt .i64 W r.sa r.when) (hy : IntsAt .i64 W s.sa s.when) :
    Calls Tryd.prog 24 #[rv r, rv s] W fun e w' => e = .returned (.bool (meets r.when s.when)) ∧ Below W.heap.size W w' := by
  obtain ⟨sa, sc, xa, d⟩ := r
  obtain ⟨sb, sd, bs, f⟩ := s
  unfold rv
  dsimp only at hl hl6 hx hy ⊢
  rw [← hl]
  have HLL := Lib.hid hl
  obtain ⟨w1, hw1⟩ : ∃ w1, w1 = (W.alloc (.cells #[.slice sa xa.length sc, .int .i64 d] 35)).alloc (.cells #[.slice sb xa.length sd, .int .i64 f] 35) := ⟨_, rfl⟩
  have hb1 : Below W.heap.size W w1 := by rw [hw1]; exact ((Below.refl _ _).alloc (Nat.le_refl _) _).alloc (by simp) _
  have HX := Lib.hid (hx.below (Nat.le_refl _) hb1)
  have HY := Lib.hid (hy.below (Nat.le_refl _) hb1)
  have HB1 := Lib.hid hb1
  have hcb : w1.cell? ⟨W.heap.size + 1, 0, none⟩ = some (.slice sb xa.length sd) := by rw [hw1]; simp [go_sem]
  have HCB := Lib.hid hcb
  clear hl hx hy hb1 hcb
  go_enter Tryd.func24, Tryd.ntmps24
  go_wp2_with fail
  go_loopw [11] (fun kv wr => ∃ k q : Nat, kv = .int .i64 k ∧ k ≤ xa.length ∧ RowKit.Hid (∀ j, j < k → xa.getD j 0 < 0 ∨ bs.getD j 0 < 0 ∨ xa.getD j 0 = bs.getD j 0) ∧ wr = w1.drewN q) (fun kv _ => xa.length - (intOf kv).toNat)
  case atStart => exact ⟨0, 0, rfl, by omega, Lib.hid (fun j hj => by omega), by rw [hw1]; exact (drewN_zero _).symm⟩
  clear hw1
  case round =>
    obtain ⟨k, q, rfl, hk, hall, hwr⟩ := hrel
    by_cases hlt : k < xa.length
    · have hcb : wr.cell? ⟨W.heap.size + 1, 0, none⟩ = some (.slice sb xa.length sd) := by rw [hwr]; exact HCB.out
      obtain ⟨b1, o1, rfl, hc1⟩ := HX.out k hlt
      obtain ⟨b2, o2, rfl, hc2⟩ := HY.out k (by rw [← HLL.out]; exact hlt)
      obtain ⟨w, hw⟩ : ∃ w, w = xa.getD k 0 := ⟨_, rfl⟩
      obtain ⟨v, hv⟩ : ∃ v, v = bs.getD k 0 := ⟨_, rfl⟩
      rw [← hw] at hc1
      rw [← hv] at hc2
      have hc1' : wr.cell? ⟨b1, o1 + k, none⟩ = some (.int .i64 w) := by rw [hwr]; exact hc1
      have hc2' : wr.cell? ⟨b2, o2 + k, none⟩ = some (.int .i64 v) := by rw [hwr]; exact hc2
      have HV := Lib.hid hv
      have HW := Lib.hid hw
      have HWR := Lib.hid hwr
      have HBW := Lib.hid (show Below W.heap.size W wr by rw [hwr]; exact below_drewN HB1.out q)
      clear hv hw hc1 hc2 hwr
      by_cases hok : w < 0 ∨ v < 0 ∨ w = v
      · have HN := Lib.hid (show ∀ j, j < k + 1 → xa.getD j 0 < 0 ∨ bs.getD j 0 < 0 ∨ xa.getD j 0 = bs.getD j 0 from fun j hj => by
          by_cases e : j = k
          · subst e; rw [← HW.out, ← HV.out]; exact hok
          · exact hall.out j (by omega))
        have hcs : w < 0 ∨ (¬ w < 0 ∧ v < 0) ∨ (¬ w < 0 ∧ ¬ v < 0 ∧ w = v) := by omega
        clear hall hok
        rcases hcs with h1 | ⟨h1, h2⟩ | ⟨h1, h2, h3⟩
        case' inr.inr =>
          subst h3
          have hne : (w != w) = false := by simp
        all_goals
          go_wp2_with fail
          go_roundw
        all_goals first
          | exact ⟨k + 1, q, by go_num, by omega, HN, HWR.out⟩
          | (simp [intOf]; omega)
      · have HNO := Lib.hid (show meets xa bs = false by
          cases hf : meets xa bs with
          | false => rfl
          | true => have := meets_iff.1 hf k hlt; rw [← HW.out, ← HV.out] at this; exact absurd this hok)
        have h1 : ¬ w < 0 := by omega
        have h2 : ¬ v < 0 := by omega
        have h3 : (w != v) = true := by rw [bne_iff_ne]; omega
        clear hall hok
        go_wp2_with fail
        go_ret
        exact ⟨by rw [HNO.out]; rfl, HBW.out⟩
    · have hke : k = xa.length := by omega
      subst hke
      have HY2 := Lib.hid (show meets xa bs = true from meets_iff.2 hall.out)
      go_wp2_with fail
      go_ret
      exact ⟨by rw [HY2.out]; rfl, by first | exact below_drewN HB1.out q | (rw [hwr]; exact below_drewN HB1.out q)⟩

/-- Two rules clash. -/
def cl (rs : List Rl) (i k : Nat) : Bool := decide ((rs.getD i default).to ≠ (rs.getD k default).to) && meets (rs.getD i default).when (rs.getD k default).when
/-- What Clash tells. -/
def ClashPost (n : Int) (rs : List Rl) (e : Ending) : Prop :=
  (¬ tok n (rs.map Rl.when) ∧ e = .returned (.tuple #[.int .i64 0, .int .i64 0, .iface 32 (.int .i64 (tfault n (rs.map Rl.when)))])) ∨
  (tok n (rs.map Rl.when) ∧ (∀ i k, i < k → k < rs.length → cl rs i k = false) ∧ e = .returned (.tuple #[.int .i64 0, .int .i64 0, .iface 32 (.int .i64 2)])) ∨
  (tok n (rs.map Rl.when) ∧ ∃ i k : Nat, i < k ∧ k < rs.length ∧ cl rs i k = true ∧ (∀ i' k', i' < i → i' < k' → k' < rs.length → cl rs i' k' = false) ∧ (∀ k', i < k' → k' < k → cl rs i k' = false) ∧ e = .returned (.tuple #[.int .i64 i, .int .i64 k, .nilIface]))

set_option maxHeartbeats 4000000 in
set_option maxRecDepth 100000 in
theorem clash_any (n : Int) (rs : List Rl) (lo : Option Addr) (lc : Nat) (W : World) (hx : RulesAt W lo rs) (hl : rs.length ≤ maxLen) :
    Calls Tryd.prog 12 #[.int .i64 n, .slice lo rs.length lc] W fun e w' => ClashPost n rs e ∧ Below W.heap.size W w' := by
  have HC := Lib.hid (tcheck_any n rs lo lc W hx hl)
  have HX := Lib.hid (show ∀ w, Below W.heap.size W w → RulesAt w lo rs from fun w hb => hx.below (Nat.le_refl _) hb)
  clear hx
  go_enter Tryd.func12, Tryd.ntmps12
  go_wp2_with fail
  refine HC.out.mono ?_
  clear HC
  rintro e w2 ⟨hp, hw2⟩
  have HW2 := Lib.hid hw2
  clear hw2
  rcases hp with ⟨hok, rfl⟩ | ⟨hno, rfl⟩
  · obtain ⟨m, rfl, hm1, hm6, hr12, hall⟩ := id hok
    have HOK := Lib.hid hok
    have HALL := Lib.hid hall
    have hr12' : rs.length ≤ 12 := by simpa using hr12
    clear hok hall hr12
    go_wp2_with fail
    go_loopw [18] (fun iv wr => ∃ i : Nat, iv = .int .i64 i ∧ i ≤ rs.length ∧ RowKit.Hid (∀ i' k', i' < i → i' < k' → k' < rs.length → cl rs i' k' = false) ∧ Below W.heap.size W wr) (fun iv _ => rs.length - (intOf iv).toNat)
    case atStart => exact ⟨0, rfl, by omega, Lib.hid (fun i' k' h => by omega), HW2.out⟩
    clear HW2
    case round =>
      obtain ⟨i, rfl, hi, hfst, hwr⟩ := hrel
      have HWR := Lib.hid hwr
      clear hwr
      by_cases hin : i < rs.length
      · go_wp2_with fail
        go_loopw [9] (fun kv wr => ∃ k : Nat, kv = .int .i64 k ∧ k ≤ rs.length ∧ i < k ∧ RowKit.Hid (∀ k', i < k' → k' < k → cl rs i k' = false) ∧ Below W.heap.size W wr) (fun kv _ => rs.length - (intOf kv).toNat)
        case atStart => exact ⟨i + 1, by go_num, by omega, by omega, Lib.hid (fun k' h1 h2 => by omega), HWR.out⟩
        clear HWR
        case round =>
          obtain ⟨k, rfl, hk, hik, hnd, hwr⟩ := hrel
          by_cases hkn : k < rs.length
          · have hxw := HX.out wr hwr
            obtain ⟨b, o, rfl, c1, c2, hw1, _⟩ := hxw i hin
            obtain ⟨b', o', e, d1, d2, hw2, _⟩ := hxw k hkn
            cases e
            have hmr := rule_at hxw HALL.out (show rs.getD i default ∈ rs by simp [hin])
            have hms := rule_at hxw HALL.out (show rs.getD k default ∈ rs by simp [hkn])
            have hcl : cl rs i k = (decide ((rs.getD i default).to ≠ (rs.getD k default).to) && meets (rs.getD i default).when (rs.getD k default).when) := rfl
            obtain ⟨r, hr⟩ : ∃ r, r = rs.getD i default := ⟨_, rfl⟩
            obtain ⟨s, hs⟩ : ∃ s, s = rs.getD k default := ⟨_, rfl⟩
            rw [← hr] at c1 c2 hw1 hmr hcl
            rw [← hs] at d1 d2 hw2 hms hcl
            have HMT := Lib.hid (meet_any r s (by omega) (by omega) wr.drew hw1 hw2)
            have HNX := Lib.hid (show cl rs i k = false → ∀ k', i < k' → k' < k + 1 → cl rs i k' = false from fun h k' h1 h2 => by
              by_cases e : k' = k
              · subst e; exact h
              · exact hnd.out k' h1 (by omega))
            have HFD := Lib.hid (show cl rs i k = true → ClashPost m rs (.returned (.tuple #[.int .i64 i, .int .i64 k, .nilIface])) from fun h => .inr (.inr ⟨HOK.out, i, k, hik, hkn, h, hfst.out, hnd.out, rfl⟩))
            have HCL := Lib.hid hcl
            have HWR := Lib.hid hwr
            clear hxw hw1 hw2 hmr hms hcl hr hs hnd hwr
            by_cases hto : r.to = s.to
            · have hne : (r.to != s.to) = false := by rw [hto]; simp
              have HN := Lib.hid (HNX.out (by rw [HCL.out, decide_eq_false (by simpa using hto)]; rfl))
              clear hto
              go_wp2_with fail
              go_quiet (fail)
              go_wp2_with fail
              go_roundw
              case rel => exact ⟨k + 1, by go_num, by omega, by omega, HN, below_drewN HWR.out _⟩
              case measure => simp [intOf]; omega
            · have hne : (r.to != s.to) = true := by rw [bne_iff_ne]; exact hto
              go_wp2_with fail
              first
                | (go_still_tail 20, (by kernel_rfl))
                | (go_still_tail 19, (by kernel_rfl))
                | (go_still_tail 21, (by kernel_rfl))
              go_wp2_with fail
              unfold rv at HMT
              refine HMT.out.mono ?_
              clear HMT
              rintro e w5 ⟨rfl, hb5⟩
              have hb6 : Below W.heap.size W wr.drew := HWR.out.drew
              have HB5 := Lib.hid (hb6.trans (hb5.mono hb6.size))
              clear hb5 hb6
              cases hmt : meets r.when s.when with
              | true =>
                have HF := Lib.hid (HFD.out (by rw [HCL.out, hmt, decide_eq_true hto]; rfl))
                clear hmt hto
                go_wp2_with fail
                go_ret3
                exact ⟨HF.out, HB5.out⟩
              | false =>
                have HN := Lib.hid (HNX.out (by rw [HCL.out, hmt]; simp))
                clear hmt hto
                go_wp2_with fail
                go_roundw
                case rel => exact ⟨k + 1, by go_num, by omega, by omega, HN, HB5.out⟩
                case measure => simp [intOf]; omega
          · have hke : k = rs.length := by omega
            have HN := Lib.hid (show ∀ i' k', i' < i + 1 → i' < k' → k' < rs.length → cl rs i' k' = false from fun i' k' h1 h2 h3 => by
              by_cases e : i' = i
              · subst e; exact hnd.out k' h2 (by omega)
              · exact hfst.out i' k' (by omega) h2 h3)
            clear hfst hnd
            go_wp2_with fail
            go_roundw
            case rel => exact ⟨i + 1, by go_num, by omega, HN, hwr⟩
            case measure => simp [intOf]; omega
      · have hie : i = rs.length := by omega
        subst hie
        have HN := Lib.hid (show ∀ i k, i < k → k < rs.length → cl rs i k = false from fun i k h1 h2 => hfst.out i k (by omega) h1 h2)
        clear hfst
        go_wp2_with fail
        go_ret3
        exact ⟨.inr (.inl ⟨HOK.out, HN.out, rfl⟩), HWR.out⟩
  · have HNO := Lib.hid hno
    clear hno
    go_wp2_with fail
    go_ret3
    exact ⟨.inl ⟨HNO.out, rfl⟩, HW2.out⟩
end Go.Proofs.YtpmfpegjkfnnkaaDoor
