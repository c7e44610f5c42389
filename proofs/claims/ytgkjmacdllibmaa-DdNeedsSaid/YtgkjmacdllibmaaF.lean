import Derived.Test.YtgkjmacdllibmaaE
namespace Go.Proofs.Ytgkjmacdllibmaa
open Go.RowKit Go.Mine Go.Mine.Dd

/-- How many of a list's first k are in another one. -/
def many (l need : List Int) (k : Nat) : Nat := ((l.take k).filter fun x => decide (x ∈ need)).length
theorem many_le (l need : List Int) (k : Nat) : many l need k ≤ k := by
  unfold many
  exact Nat.le_trans (List.length_filter_le _ _) (by rw [List.length_take]; omega)
theorem many_succ {l need : List Int} {k : Nat} (hk : k < l.length) {d : Bool} (hd : decide (l.getD k 0 ∈ need) = d) : many l need (k + 1) = many l need k + (if d then 1 else 0) := by
  unfold many
  rw [List.take_succ_eq_append_getElem hk, List.filter_append, List.length_append]
  simp [hk] at hd
  cases d <;> simp [hd]
theorem nodup_succ {l : List Int} {k : Nat} (hk : k < l.length) (h : (l.take k).Nodup) (hx : decide (l.getD k 0 ∈ l.take k) = false) : (l.take (k + 1)).Nodup := by
  rw [List.take_succ_eq_append_getElem hk, List.nodup_append]
  refine ⟨h, by simp, ?_⟩
  intro a ha b hb e
  simp at hb
  subst hb
  subst e
  simp [hk] at hx
  exact hx ha

theorem IntsAt.heap {k : IntKind} {w w' : World} {ao : Option Addr} {xs : List Int} (h : IntsAt k w ao xs) (hw : w'.heap = w.heap) : IntsAt k w' ao xs := by
  intro j hj
  obtain ⟨b, o, h1, h2⟩ := h j hj
  exact ⟨b, o, h1, (World.cell?_of_block (w := w) (by rw [hw])).trans h2⟩

set_option maxRecDepth 100000 in
set_option maxHeartbeats 1000000 in
theorem ddNeeds_walk (l need : List Int) (lo na : Option Addr) (lc nc : Nat) (W : World) (hx : IntsAt .i64 W lo l) (hn : lo = none → l.length = 0) (hl : l.length ≤ maxLen) (hlc : l.length ≤ lc) (hnx : IntsAt .i64 W na need) (hnl : need.length ≤ maxLen) :
    Calls Try.prog 3 #[.slice lo l.length lc, .slice na need.length nc] W fun e w' => e = .returned (.bool true) ∧ Below W.heap.size W w' := by
  have HM := Lib.hid (min_fault l need lo na lc nc W hx hn hl hnx hnl)
  have HX := Lib.hid hx
  have HNX := Lib.hid hnx
  have HNL := Lib.hid hnl
  have HL := Lib.hid hl
  unfold maxLen at hl
  clear hx hn hnx hnl
  go_enter Try.func3, Try.ntmps3
  go_wp2_with fail
  refine (fault_makes 1 na need.length nc 0 W).mono ?_
  rintro e w1 ⟨rfl, rfl⟩
  go_wp2_with fail
  refine HM.out.mono ?_
  rintro e w2 ⟨⟨v, x, rfl, hv⟩, hb2⟩
  have HV := Lib.hid hv
  clear hv
  go_wp2_with fail
  refine (needs_fact w2).mono ?_
  rintro e w3 ⟨⟨a7, c7, rfl⟩, hb3⟩
  have HB3 := Lib.hid (hb2.trans (hb3.mono hb2.size))
  rcases HV.out with ⟨rfl, a5, c5, m, rfl, hm12, hm, hmx⟩ | ⟨rfl, k, rfl⟩
  · have HM5 := Lib.hid hm
    have HMX := Lib.hid (hmx.below (Nat.le_refl _) hb3)
    clear hm hmx hb2 hb3 HV HM
    go_wp2_with fail
    go_loopw [9, 10] (fun mm i wr => ∃ (j nd : Nat), mm = .int .i64 (many l need j : Nat) ∧ i = .int .i64 j ∧ j ≤ l.length ∧ RowKit.Hid ((l.take j).Nodup) ∧ wr = w3.drewN nd) (fun _ i _ => l.length - (intOf i).toNat)
    case atStart => exact ⟨0, 0, rfl, rfl, by omega, Lib.hid (by simp), rfl⟩
    case round =>
      obtain ⟨j, nd, rfl, rfl, hj, hnd, rfl⟩ := hrel
      have hml := many_le l need j
      obtain ⟨t, ht⟩ : ∃ t, t = many l need j := ⟨_, rfl⟩
      rw [← ht] at hml ⊢
      have HT := Lib.hid ht
      clear ht
      by_cases hlt : j < l.length
      · obtain ⟨b, o, rfl, hc⟩ := HX.out.below (Nat.le_refl _) HB3.out j hlt
        obtain ⟨z, hz⟩ : ∃ z, z = l.getD j 0 := ⟨_, rfl⟩
        rw [← hz] at hc
        have HZ := Lib.hid hz
        clear hz
        have hjc : j ≤ lc := by omega
        have I1 : RowKit.Hid (∀ w : World, w.heap = w3.heap → Calls Try.prog 7 #[.slice (some ⟨b, o, none⟩) j lc, .int .i64 z] w fun e w' => e = .returned (.bool (decide (z ∈ l.take j))) ∧ w = w') := by
          refine Lib.hid fun w hw => ?_
          have h := In_any (l.take j) z (some ⟨b, o, none⟩) lc w (IntsAt.heap ((IntsAt.take (HX.out.below (Nat.le_refl _) HB3.out) j)) hw) (by rw [List.length_take]; unfold maxLen; omega)
          rwa [show (l.take j).length = j by rw [List.length_take]; omega] at h
        have I2 : RowKit.Hid (∀ w : World, w.heap = w3.heap → Calls Try.prog 7 #[.slice na need.length nc, .int .i64 z] w fun e w' => e = .returned (.bool (decide (z ∈ need))) ∧ w = w') :=
          Lib.hid fun w hw => In_any need z na nc w (IntsAt.heap (HNX.out.below (Nat.le_refl _) HB3.out) hw) HNL.out
        have I3 : RowKit.Hid (∀ w : World, w.heap = w3.heap → Calls Try.prog 7 #[.slice a5 m.length c5, .int .i64 z] w fun e w' => e = .returned (.bool (decide (z ∈ m))) ∧ w = w') :=
          Lib.hid fun w hw => In_any m z a5 c5 w (IntsAt.heap HMX.out hw) (by unfold maxLen; omega)
        obtain ⟨d1, hd1⟩ : ∃ d, d = decide (z ∈ l.take j) := ⟨_, rfl⟩
        obtain ⟨d2, hd2⟩ : ∃ d, d = decide (z ∈ need) := ⟨_, rfl⟩
        rw [← hd1] at I1
        rw [← hd2] at I2
        have hd3 : d2 = true → decide (z ∈ m) = true := by
          intro h
          rw [hd2] at h
          exact decide_eq_true ((allIn_iff need m).1 HM5.out.fails z (of_decide_eq_true h))
        rw [HZ.out] at hd1 hd2
        have HD1 := Lib.hid hd1
        have HD2 := Lib.hid hd2
        have HD3 := Lib.hid hd3
        clear hd1 hd2 hd3
        go_wp2_with fail
        go_quiet ((go_at_call 7; refine Calls.mono (I1.out _ ?_) ?_; exact rfl; exact fun _ _ h => ⟨h.1, _, h.2.symm⟩))
        cases d1
        · go_wp2_with fail
          refine Calls.mono (I2.out _ ?_) ?_
          · rfl
          rintro e w' ⟨rfl, rfl⟩
          cases d2
          · go_wp2_with fail
            go_roundw
            case rel => exact ⟨j + 1, _, by rw [many_succ hlt HD2.out.symm, HT.out]; simp, by go_num, by omega, Lib.hid (nodup_succ hlt hnd.out HD1.out.symm), rfl⟩
            case measure => simp [intOf]; omega
          · have h3 := HD3.out rfl
            rw [h3] at I3
            clear h3
            go_wp2_with fail
            refine Calls.mono (I3.out _ ?_) ?_
            · rfl
            rintro e w' ⟨rfl, rfl⟩
            go_wp2_with fail
            go_roundw
            case rel => exact ⟨j + 1, _, by rw [many_succ hlt HD2.out.symm, ← HT.out]; go_num, by go_num, by omega, Lib.hid (nodup_succ hlt hnd.out HD1.out.symm), rfl⟩
            case measure => simp [intOf]; omega
        · go_wp2_with fail
          go_ret
          exact ⟨rfl, by first | exact below_drewN HB3.out _ | exact below_drewN (below_drewN HB3.out _) _⟩
      · have hje : j = l.length := by omega
        subst hje
        have hmt : m.length = t := by
          rw [HT.out, least_count HM5.out (by have := hnd.out; rwa [List.take_length] at this)]
          unfold many
          rw [List.take_length]
        subst hmt
        go_wp2_with fail
        go_ret
        exact ⟨rfl, below_drewN HB3.out _⟩
  · go_wp2_with fail
    go_ret
    exact ⟨rfl, HB3.out⟩
end Go.Proofs.Ytgkjmacdllibmaa
