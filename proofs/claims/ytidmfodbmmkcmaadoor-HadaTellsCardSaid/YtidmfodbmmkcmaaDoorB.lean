import Derived.Test.YtidmfodbmmkcmaaDoorA
namespace Go.Proofs.YtidmfodbmmkcmaaDoor
open Go.RowKit Go.Mine Go.Mine.Hada

/-- What Back asks of a place. -/
def good (n : Nat) (x v : Int) : Prop := (-140737488355328 ≤ x ∧ x ≤ 140737488355328) ∧ v.tmod n = 0 ∧ -1099511627776 ≤ v.tdiv n ∧ v.tdiv n ≤ 1099511627776

theorem R_set_done (v : Nat → Int) (n k : Nat) (q : Int) (hq : wrap64 q = q) :
    (R (fun j => if j < k then (v j).tdiv n else v j) n).set k (.int .i64 q) = R (fun j => if j = k then q else if j < k then (v j).tdiv n else v j) n := by
  unfold R
  rw [set_range]
  refine List.map_congr_left fun j _ => ?_
  dsimp only
  by_cases e1 : j = k
  · rw [if_pos e1, if_pos e1, hq]
  · rw [if_neg e1, if_neg e1]

set_option maxHeartbeats 1000000 in
theorem back_any (k : Nat) (xs : List Int) (ao : Option Addr) (cap : Nat) (W : World) (hx : IntsAt .i64 W ao xs) (hk : k ≤ 6) (hl : xs.length = 2 ^ k) (hw : ∀ j, wrap64 (xs.getD j 0) = xs.getD j 0) :
    Calls Tryd.prog 13 #[.int .i64 k, .slice ao xs.length cap] W fun e w' => Below W.heap.size W w' ∧
      (((∃ j, j < xs.length ∧ ¬ good xs.length (xs.getD j 0) (wrap64 (G k (fun j => xs.getD j 0) j))) ∧ e = .returned (.tuple #[.slice none 0 0, .iface 24 (.int .i64 2)])) ∨
       ((∀ j, j < xs.length → good xs.length (xs.getD j 0) (wrap64 (G k (fun j => xs.getD j 0) j))) ∧ ∃ g cap', e = .returned (.tuple #[.slice (some ⟨g, 0, none⟩) xs.length cap', .nilIface]) ∧
         w'.ownsRow W.heap.size 3 1 (.slice (some ⟨g, 0, none⟩) xs.length cap') xs.length (R (fun j => (wrap64 (G k (fun j => xs.getD j 0) j)).tdiv xs.length) xs.length))) := by
  have HE := Lib.hid (effects_ok k xs ao cap W hx hk hl hw)
  have hn64 := pow_le hk
  rw [← hl] at hn64
  have hn1 : 0 < xs.length := by rw [hl]; exact Nat.two_pow_pos k
  have HX := Lib.hid hx; clear hx
  have HW := Lib.hid hw; clear hw hl
  obtain ⟨v, hv⟩ : ∃ v : Nat → Int, v = fun j => wrap64 (G k (fun j => xs.getD j 0) j) := ⟨_, rfl⟩
  have hvj : ∀ j, wrap64 (G k (fun j => xs.getD j 0) j) = v j := fun j => by rw [hv]
  have hvw : ∀ j, wrap64 (v j) = v j := fun j => by rw [hv]; exact wrap_idem _
  have hvr : ∀ j, -9223372036854775808 ≤ v j ∧ v j ≤ 9223372036854775807 := fun j => by rw [hv]; exact wrap_range _
  simp only [hvj]
  have hR : R (G k fun j => xs.getD j 0) xs.length = R v xs.length := by
    unfold R
    refine List.map_congr_left fun j _ => ?_
    rw [hvw, hvj]
  rw [hR] at HE
  have HVW := Lib.hid hvw
  have HVR := Lib.hid hvr
  clear hv hvj hR hvw hvr HW
  have HXP := Lib.hid (show ∀ w, IntsAt .i64 w ao xs → ∀ j, j < xs.length → ∃ b o, ao = some ⟨b, o, none⟩ ∧ w.cell? ⟨b, o + j, none⟩ = some (.int .i64 (xs.getD j 0)) from fun w h => h)
  obtain ⟨f, hf⟩ : ∃ f : Nat → Int, f = fun j => xs.getD j 0 := ⟨_, rfl⟩
  have hfj : ∀ j, xs.getD j 0 = f j := fun j => by rw [hf]
  simp only [hfj] at HXP ⊢
  clear hf hfj
  obtain ⟨n, hn⟩ : ∃ n, n = xs.length := ⟨_, rfl⟩
  rw [← hn] at HE HXP hn1 hn64 ⊢
  clear hn
  go_enter Tryd.func13, Tryd.ntmps13
  go_wp2_with fail
  refine HE.out.mono ?_
  rintro e w1 ⟨g, cap1, rfl, hown, hb⟩
  have hx1 := HX.out.below (Nat.le_refl _) hb
  have HX1 := Lib.hid (HXP.out _ hx1)
  clear HE HX hx1 HXP
  go_wp2_with fail
  go_loop [23] (fun i => ∃ j : Nat, j ≤ n ∧ i = .int .i64 j ∧ ∀ i, i < j → -140737488355328 ≤ f i ∧ f i ≤ 140737488355328) (fun i => n - (intOf i).toNat)
  case atStart => exact ⟨0, by omega, rfl, by intro i hi; omega⟩
  case round =>
    obtain ⟨j, hj, rfl, hall⟩ := hrel
    have HALL := Lib.hid hall; clear hall
    by_cases hjn : j < n
    · obtain ⟨b, o, rfl, hc⟩ := HX1.out j hjn
      obtain ⟨x, hx⟩ : ∃ x, x = f j := ⟨_, rfl⟩
      rw [← hx] at hc
      have HXX := Lib.hid hx; clear hx
      by_cases h1 : x < -140737488355328
      · go_wp2_with fail
        go_ret2
        exact ⟨hb, .inl ⟨⟨j, hjn, fun h => by have := h.1; rw [← HXX.out] at this; omega⟩, rfl⟩⟩
      · by_cases h2 : 140737488355328 < x
        · go_wp2_with fail
          go_ret2
          exact ⟨hb, .inl ⟨⟨j, hjn, fun h => by have := h.1; rw [← HXX.out] at this; omega⟩, rfl⟩⟩
        · go_wp2_with fail
          go_round
          case rel =>
            refine ⟨j + 1, by omega, by go_num, fun i hi => ?_⟩
            by_cases e : i = j
            · subst e; rw [← HXX.out]; omega
            · exact HALL.out i (by omega)
          case measure => simp [intOf]; omega
    · have hjn' : j = n := by omega
      subst hjn'
      go_wp2_with fail
      go_loopw [37] (fun i wr => ∃ t : Nat, t ≤ j ∧ i = .int .i64 t ∧ (∀ i, i < t → good j (f i) (v i)) ∧ wr.ownsRow W.heap.size 3 1 (.slice (some ⟨g, 0, none⟩) j cap1) j (R (fun i => if i < t then (v i).tdiv j else v i) j) ∧ Below W.heap.size W wr) (fun i _ => j - (intOf i).toNat)
      case atStart => exact ⟨0, by omega, rfl, by intro i hi; omega, by simpa using hown, hb⟩
      case round =>
        obtain ⟨t, ht, rfl, hgood, hown2, hb2⟩ := hrel
        have HG := Lib.hid hgood; clear hgood
        by_cases htn : t < j
        · have hc : wr.cell? ⟨g, t, none⟩ = some (.int .i64 (v t)) := by rw [hown2.cellAt _ (by omega), R_at _ htn, if_neg (by omega), HVW.out]
          have hf := hown2.frozenAt t
          have hgs := (hown2.lt g rfl).1
          obtain ⟨x, hx⟩ : ∃ x, x = v t := ⟨_, rfl⟩
          rw [← hx] at hc
          have hxr := HVR.out t
          rw [← hx] at hxr
          have HXX := Lib.hid hx; clear hx
          have hfalse : ¬ (x.tmod j = 0 ∧ -1099511627776 ≤ x.tdiv j ∧ x.tdiv j ≤ 1099511627776) → ¬ good j (f t) (v t) := fun h h' => h (by rw [HXX.out]; exact h'.2)
          have HF := Lib.hid hfalse; clear hfalse
          have htrue : x.tmod j = 0 → -1099511627776 ≤ x.tdiv j → x.tdiv j ≤ 1099511627776 → good j (f t) (v t) := fun h1 h2 h3 => ⟨HALL.out t htn, by rw [← HXX.out]; exact ⟨h1, h2, h3⟩⟩
          have HT := Lib.hid htrue; clear htrue
          have hst : wrap64 (x.tdiv j) = x.tdiv j → (wr.setCell ⟨g, t, none⟩ (.int .i64 (x.tdiv j))).ownsRow W.heap.size 3 1 (.slice (some ⟨g, 0, none⟩) j cap1) j (R (fun i => if i < t + 1 then (v i).tdiv j else v i) j) := fun hq => by
            have h1 := (hown2.stored t (.int .i64 (x.tdiv j))).1
            rw [R_set_done v j t _ hq] at h1
            rw [R_congr (h' := fun i => if i = t then x.tdiv j else if i < t then (v i).tdiv j else v i) fun i _ => by
              by_cases e1 : i = t
              · rw [if_pos (by omega), if_pos e1, e1, HXX.out]
              · by_cases e2 : i < t
                · rw [if_pos (by omega), if_neg e1, if_pos e2]
                · rw [if_neg (by omega), if_neg e1, if_neg e2]]
            exact h1
          have HST := Lib.hid hst
          have HBS := Lib.hid (hb2.setCell (p := ⟨g, t, none⟩) hgs (.int .i64 (x.tdiv j)))
          clear hst hown2 hown
          go_wp2_with fail
          case roundEnd =>
            have h1 : x.tmod j = 0 := by assumption
            have h2 : -1099511627776 ≤ x.tdiv j ∧ x.tdiv j ≤ 1099511627776 := by assumption
            go_roundw
            case rel =>
              refine ⟨t + 1, by omega, by go_num, fun i hi => ?_, HST.out (wrap_id _ (by omega)), HBS.out⟩
              by_cases e : i = t
              · subst e; exact HT.out h1 h2.1 h2.2
              · exact HG.out i (by omega)
            case measure => simp [intOf]; omega
          all_goals
            go_ret2
            refine ⟨hb2, .inl ⟨⟨t, htn, HF.out ?_⟩, rfl⟩⟩
            rintro ⟨h1, h2, h3⟩
            first
              | (have h4 : ¬ x.tmod j = 0 := by assumption
                 exact h4 h1)
              | (have h4 : x.tdiv j < -1099511627776 := by assumption
                 omega)
              | (have h4 : x.tdiv j < -1099511627776 ∨ 1099511627776 < x.tdiv j := by assumption
                 omega)
        · have htn' : t = j := by omega
          subst htn'
          rw [R_congr (h' := fun i => (v i).tdiv t) fun i hi => by rw [if_pos hi]] at hown2
          have HO := Lib.hid hown2
          clear hown2 hown
          go_wp2_with fail
          go_ret2
          exact ⟨hb2, .inr ⟨HG.out, g, cap1, rfl, HO.out⟩⟩
end Go.Proofs.YtidmfodbmmkcmaaDoor
