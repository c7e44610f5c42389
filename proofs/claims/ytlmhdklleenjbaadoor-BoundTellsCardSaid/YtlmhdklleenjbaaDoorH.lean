/- BoundTells' walk. -/
import Derived.Test.YtlmhdklleenjbaaDoorG
import Derived.Test.YtlmhdklleenjbaaDoorB
import Derived.Test.YtlmhdklleenjbaaDoorLists
import Derived.Test.YtlmhdklleenjbaaDoorMore
import Derived.Test.YtlmhdklleenjbaaDoorSInts
import Derived.Test.YtlmhdklleenjbaaDoorTold
namespace Go.Proofs.YtlmhdklleenjbaaDoor
open Go.RowKit Go.Mine Go.Sort

theorem info3 : (Tryd.prog.info? 3).map (fun i => (i.zero, i.size, i.bytes)) = some (some (.int .i64 0), 1, 8) := by kernel_rfl
theorem error_same (x : Value) (c : Int) (hx : (x = .nilIface ∧ c = 0) ∨ x = .iface 22 (.int .i64 c)) (w : World) (hg : Laid w) :
    Calls Tryd.prog 6 #[x, .int .i64 c] w fun e w' => e = .returned (.bool true) ∧ Below w.heap.size w w' := by
  have H := told_any x c hx w hg
  go_enter Tryd.func6, Tryd.ntmps6
  go_wp2_with fail
  refine H.mono ?_
  rintro e w' ⟨rfl, hb⟩
  clear H
  go_wp2_with fail
  go_ret
  exact ⟨by simp, hb⟩
theorem ints_nil (w : World) : Calls Tryd.prog 7 #[.slice none 0 0, .slice none 0 0] w fun e w' => e = .returned (.bool true) ∧ Below w.heap.size w w' :=
  (Ints_any [] [] none none 0 0 w (IntsAt.nil _ _ _) (IntsAt.nil _ _ _) (by simp [maxLen])).mono fun e w' ⟨h, n, hn⟩ => ⟨by rw [h]; simp, by rw [hn]; exact below_drewN (Below.refl _ _) _⟩
theorem ints_same (xs : List Int) (a b : Option Addr) (ca cb : Nat) (w : World) (ha : IntsAt .i64 w a xs) (hb : IntsAt .i64 w b xs) (hl : xs.length ≤ 5) :
    Calls Tryd.prog 7 #[.slice a xs.length ca, .slice b xs.length cb] w fun e w' => e = .returned (.bool true) ∧ Below w.heap.size w w' :=
  (Ints_any xs xs a b ca cb w ha hb (by unfold maxLen; omega)).mono fun e w' ⟨h, n, hn⟩ => ⟨by rw [h]; simp, by rw [hn]; exact below_drewN (Below.refl _ _) _⟩

set_option maxHeartbeats 1000000 in
set_option maxRecDepth 100000 in
theorem tells_bad (lo hi n : Int) (W : World) (hg : Laid W) (h : hi < lo ∨ lo < -1073741824 ∨ 1073741824 < hi) :
    Calls Tryd.prog 3 #[.int .i64 lo, .int .i64 hi, .int .i64 n] W fun e w' => e = .returned (.bool true) ∧ Below W.heap.size W w' := by
  have HG := Lib.hid hg
  have HH := Lib.hid h
  clear hg
  have hcs : hi < lo ∨ (lo ≤ hi ∧ lo < -1073741824) ∨ (lo ≤ hi ∧ -1073741824 ≤ lo ∧ 1073741824 < hi) := by omega
  clear h
  rcases hcs with h1 | ⟨h1, h2⟩ | ⟨h1, h2, h3⟩
  all_goals
    go_enter Tryd.func3, Tryd.ntmps3
    go_wp2_with fail
    refine (edges_bad lo hi W HH.out).mono ?_
    rintro e w1 ⟨rfl, hb1⟩
    have HB1 := Lib.hid hb1
    clear hb1
    go_wp2_with fail
    refine (error_same _ 1 (.inr rfl) w1 (HG.out.below HB1.out)).mono ?_
    rintro e w2 ⟨rfl, hb⟩
    have HB2 := Lib.hid (HB1.out.trans (hb.mono HB1.out.size))
    clear hb
    go_wp2_with fail
    refine (ints_nil w2).mono ?_
    rintro e w3 ⟨rfl, hb⟩
    have HB3 := Lib.hid (HB2.out.trans (hb.mono HB2.out.size))
    clear hb
    go_wp2_with fail
    refine (parts_out lo hi n w3 HH.out).mono ?_
    rintro e w4 ⟨rfl, rfl⟩
    go_wp2_with fail
    refine (error_same _ 1 (.inr rfl) w3 (HG.out.below HB3.out)).mono ?_
    rintro e w4 ⟨rfl, hb⟩
    have HB4 := Lib.hid (HB3.out.trans (hb.mono HB3.out.size))
    clear hb
    go_wp2_with fail
    refine (five_nine w4).mono ?_
    rintro e w5 ⟨⟨g9, c9, rfl⟩, hb⟩
    have HB5 := Lib.hid (HB4.out.trans (hb.mono HB4.out.size))
    clear hb
    go_wp2_with fail
    go_ret
    exact ⟨rfl, HB5.out⟩

theorem ints_keep {w w' : World} {ao : Option Addr} {xs : List Int} (h : IntsAt .i64 w ao xs) (hb : 0 < xs.length → ∀ b o s, ao = some ⟨b, o, s⟩ → w'.heap[b]? = w.heap[b]?) : IntsAt .i64 w' ao xs := by
  intro j hj
  obtain ⟨b, o, rfl, hc⟩ := h j hj
  exact ⟨b, o, rfl, (World.cell?_of_block (hb (by omega) b o none rfl)).trans hc⟩

set_option maxHeartbeats 4000000 in
set_option maxRecDepth 100000 in
theorem tells_ok (lo hi n : Int) (W : World) (hg : Laid W) (h1 : lo ≤ hi) (h2 : -1073741824 ≤ lo) (h3 : hi ≤ 1073741824) :
    Calls Tryd.prog 3 #[.int .i64 lo, .int .i64 hi, .int .i64 n] W fun e w' => e = .returned (.bool true) ∧ Below W.heap.size W w' := by
  obtain ⟨i0, hi0, hz0, hz1, hz2⟩ := info_parts info3
  have HG := Lib.hid hg
  clear hg
  obtain ⟨wa, hwa⟩ : ∃ wa, wa = W.alloc (.cells #[.int .i64 lo, .int .i64 (lo + 1), .int .i64 (lo + (hi - lo) / 2), .int .i64 (hi - 1), .int .i64 hi] 3) := ⟨_, rfl⟩
  have hba : Below W.heap.size W wa := by rw [hwa]; exact (Below.refl _ _).alloc (Nat.le_refl _) _
  have hsa : wa.heap.size = W.heap.size + 1 := by rw [hwa]; simp
  have hia : IntsAt .i64 wa (some ⟨W.heap.size, 0, none⟩) (five lo hi) := by
    intro j hj
    refine ⟨_, 0, rfl, ?_⟩
    rw [hwa]
    match j, hj with
    | 0, _ => simp [go_sem, five]
    | 1, _ => simp [go_sem, five]
    | 2, _ => simp [go_sem, five]
    | 3, _ => simp [go_sem, five]
    | 4, _ => simp [go_sem, five]
  have HA := Lib.hid (show ∀ w, Below (W.heap.size + 1) wa w → IntsAt .i64 w (some ⟨W.heap.size, 0, none⟩) (five lo hi) ∧ Below W.heap.size W w from fun w hb => ⟨hia.below (Nat.le_of_eq hsa) hb, hba.trans (hb.mono (by omega))⟩)
  have hb0 : Below (W.heap.size + 1) wa wa := Below.refl _ _
  rw [hwa] at hb0
  have HB0 := Lib.hid hb0
  clear hba hsa hia hb0
  go_enter Tryd.func3, Tryd.ntmps3
  go_wp2_with fail
  go_loopw [8, 10] (fun v xv wr => ∃ (k : Nat) (ws : List Int), k ≤ 4 ∧ xv = .int .i64 (lo - 1 + k) ∧ RowKit.Hid (Want1 lo hi (lo - 1 + k) ws) ∧ wr.ownsRow (W.heap.size + 1) 3 1 v ws.length (ws.map (Value.int .i64)) ∧ Below (W.heap.size + 1) wa wr) (fun _ xv _ => (lo + 3 - intOf xv).toNat)
  case atStart => exact ⟨0, [], by omega, by simp, Lib.hid (by simpa using Want1.start lo hi), World.ownsRow_nil _ _ _ _, by rw [hwa]; exact HB0.out⟩
  case round =>
    obtain ⟨k, ws, hk, rfl, hw, ho, hb⟩ := hrel
    have hwl := hw.out.len
    have hsz1 : W.heap.size + 1 ≤ wr.heap.size := by
      obtain ⟨b, o, e, hc⟩ := (HA.out wr hb).1 0 (by simp [five])
      cases e
      exact World.block_lt_of_cell? wr _ hc
    by_cases hlt : k < 4
    · obtain ⟨f1, f2⟩ := HA.out wr hb
      obtain ⟨x, hx⟩ : ∃ x, x = lo - 1 + (k : Int) := ⟨_, rfl⟩
      have hxr : lo - 1 ≤ x ∧ x ≤ lo + 2 := by omega
      rw [← hx] at hw ⊢
      have HX1 := Lib.hid (show x + 1 = lo - 1 + ((k + 1 : Nat) : Int) by omega)
      have HIN := Lib.hid (In_any (five lo hi) x (some ⟨W.heap.size, 0, none⟩) 5 wr f1 (by unfold maxLen five; simp))
      have HO := Lib.hid ho
      have HB := Lib.hid hb
      clear f1 ho hb hx
      go_wp2_with fail
      refine HIN.out.mono ?_
      clear HIN
      rintro e w' ⟨rfl, rfl⟩
      by_cases hm : x ∈ five lo hi
      · rw [decide_eq_true hm]
        by_cases hx1 : x < lo
        · have HW := Lib.hid (hw.out.skip fun h => by have := h.2.1; omega)
          clear hm hw
          go_wp2_with fail
          go_roundw
          case rel => exact ⟨k + 1, ws, by omega, by rw [← HX1.out], by rw [← HX1.out]; exact HW, HO.out, HB.out⟩
          case measure => simp [intOf]; omega
        · by_cases hx2 : hi < x
          · have HW := Lib.hid (hw.out.skip fun h => by have := h.2.2; omega)
            clear hm hw
            go_wp2_with fail
            go_roundw
            case rel => exact ⟨k + 1, ws, by omega, by rw [← HX1.out], by rw [← HX1.out]; exact HW, HO.out, HB.out⟩
            case measure => simp [intOf]; omega
          · have HW := Lib.hid (hw.out.push ⟨hm, by omega, by omega⟩)
            have hmap : ws.map (Value.int .i64) ++ [.int .i64 x] = (ws ++ [x]).map (Value.int .i64) := by simp
            have HMAP := Lib.hid hmap
            clear hm hw hmap
            go_wp2_with (at_builtin; refine wpList_push _ rfl _ _ 23 rfl (W.heap.size + 1) 3 i0 (.int .i64 0) 1 8 Tryd.underlying23 hi0 hz0 hz1 hz2 rfl (by decide) _ _ _ rfl (HO.out.alloc _) ⟨wr.heap.size, 0, none⟩ 1 [.int .i64 x] rfl rfl (cell_one_new _ _ _) (one1 _ _) (by unfold maxLen; omega) (by omega) (by simp; omega) ?_)
            intro g cap w7 ho7 hg7
            have hb7 := (HB.out.alloc hsz1 (.cells #[.int .i64 x] 3)).grown hg7 (by simp; omega) (fun k hk => (HO.out.lt k hk).1)
            rw [HMAP.out] at ho7
            have HO7 := Lib.hid ho7
            have HB7 := Lib.hid hb7
            clear ho7 hb7 hg7
            go_wp2_with fail
            go_roundw
            case rel => exact ⟨k + 1, ws ++ [x], by omega, by rw [← HX1.out], by rw [← HX1.out]; exact HW, by rw [List.length_append]; exact HO7.out, HB7.out⟩
            case measure => simp [intOf]; omega
      · rw [decide_eq_false hm]
        have HW := Lib.hid (hw.out.skip fun h => hm h.1)
        clear hm hw
        go_wp2_with fail
        go_roundw
        case rel => exact ⟨k + 1, ws, by omega, by rw [← HX1.out], by rw [← HX1.out]; exact HW, HO.out, HB.out⟩
        case measure => simp [intOf]; omega
    · obtain rfl : k = 4 := by omega
      have e3 : lo - 1 + ((4 : Nat) : Int) = lo + 3 := by omega
      rw [e3] at hw ⊢
      have HW0 := Lib.hid (Want2.start hw.out)
      obtain ⟨f1, f2⟩ := HA.out wr hb
      obtain ⟨b, o, e, hmid⟩ := f1 2 (by simp [five])
      cases e
      have hmid' : wr.cell? ⟨W.heap.size, 2, none⟩ = some (.int .i64 (lo + (hi - lo) / 2)) := by rw [Nat.zero_add] at hmid; exact hmid
      have HO := Lib.hid ho
      have HB := Lib.hid hb
      have HB2 := Lib.hid f2
      clear f1 f2 ho hb hw e3 hmid hwl
      obtain ⟨wo, hwo⟩ : ∃ wo : World, wo = wr := ⟨_, rfl⟩
      rw [← hwo] at HO HB HB2 hmid' hsz1 ⊢
      clear hwo wr
      have hir : IntsAt .i64 (wo.alloc (.cells #[.int .i64 (lo + (hi - lo) / 2), .int .i64 (hi - 1), .int .i64 hi] 3)) (some ⟨wo.heap.size, 0, none⟩) (rest lo hi) := by
        intro j hj
        refine ⟨_, 0, rfl, ?_⟩
        match j, hj with
        | 0, _ => simp [go_sem, rest]
        | 1, _ => simp [go_sem, rest]
        | 2, _ => simp [go_sem, rest]
      have HIR := Lib.hid hir
      have HO1 := Lib.hid (HO.out.alloc (.cells #[.int .i64 (lo + (hi - lo) / 2), .int .i64 (hi - 1), .int .i64 hi] 3))
      have HOB := Lib.hid (show u8.ownBlock ≠ some wo.heap.size from fun h => by have := (HO.out.lt _ h).2; omega)
      have HB3 := Lib.hid (HB2.out.alloc (show W.heap.size ≤ wo.heap.size by omega) (.cells #[.int .i64 (lo + (hi - lo) / 2), .int .i64 (hi - 1), .int .i64 hi] 3))
      clear hir HO HB HB2
      go_wp2_with fail
      clear hmid'
      go_loopw [8, 12] (fun v iv wr => ∃ (i : Nat) (ws : List Int), i ≤ 3 ∧ iv = .int .i64 i ∧ RowKit.Hid (Want2 lo hi i ws) ∧ wr.ownsRow (W.heap.size + 1) 3 1 v ws.length (ws.map (Value.int .i64)) ∧ v.ownBlock ≠ some wo.heap.size ∧ IntsAt .i64 wr (some ⟨wo.heap.size, 0, none⟩) (rest lo hi) ∧ Below W.heap.size W wr) (fun _ iv _ => 3 - (intOf iv).toNat)
      case atStart => exact ⟨0, ws, by omega, rfl, HW0, HO1.out, HOB.out, HIR.out, HB3.out⟩
      clear HW0 HO1 HOB HIR HB3
      case round =>
        obtain ⟨i, ws, hi3, rfl, hw, ho, hob, hir, hb⟩ := hrel
        have hwl := hw.out.len
        have hR : wo.heap.size < wr.heap.size := by
          obtain ⟨b, o, e, hc⟩ := hir 0 (by simp [rest])
          cases e
          exact World.block_lt_of_cell? wr _ hc
        by_cases hlt : i < 3
        · obtain ⟨b, o, e, hc⟩ := hir i (by simpa [rest] using hlt)
          cases e
          rw [Nat.zero_add] at hc
          obtain ⟨z, hz⟩ : ∃ z, z = (rest lo hi).getD i 0 := ⟨_, rfl⟩
          rw [← hz] at hc
          have hzr : lo - 1 ≤ z ∧ z ≤ hi := by
            rw [hz]
            rcases (show i = 0 ∨ i = 1 ∨ i = 2 by omega) with rfl | rfl | rfl <;> simp [rest] <;> omega
          have HZ := Lib.hid hz
          have HO := Lib.hid ho
          have HOB := Lib.hid hob
          have HIR := Lib.hid hir
          have HB := Lib.hid hb
          obtain ⟨ao, ac, rfl⟩ := owns_shape ho
          have HIN := Lib.hid (In_any ws z ao ac wr (IntsAt.of_owns ho) (by unfold maxLen; omega))
          clear hz ho hob hir hb
          by_cases hzlo : z ≤ lo + 2
          · have HW := Lib.hid (hw.out.skip hlt HZ.out (.inl hzlo))
            have hd1 : decide (lo + 2 < z) = false := by rw [decide_eq_false_iff_not]; omega
            clear hw HIN
            go_wp2_with fail
            go_roundw
            case rel => exact ⟨i + 1, ws, by omega, by go_num, HW, HO.out, HOB.out, HIR.out, HB.out⟩
            case measure => simp [intOf]; omega
          · have hd1 : decide (lo + 2 < z) = true := by rw [decide_eq_true_iff]; omega
            go_wp2_with fail
            refine HIN.out.mono ?_
            clear HIN
            rintro e w' ⟨rfl, rfl⟩
            by_cases hm : z ∈ ws
            · rw [decide_eq_true hm]
              have HW := Lib.hid (hw.out.skip hlt HZ.out (.inr hm))
              clear hm hw
              go_wp2_with fail
              go_roundw
              case rel => exact ⟨i + 1, ws, by omega, by go_num, HW, HO.out, HOB.out, HIR.out, HB.out⟩
              case measure => simp [intOf]; omega
            · rw [decide_eq_false hm]
              have HW := Lib.hid (hw.out.push hlt HZ.out (by omega) hm)
              have hmap : ws.map (Value.int .i64) ++ [.int .i64 z] = (ws ++ [z]).map (Value.int .i64) := by simp
              have HMAP := Lib.hid hmap
              have HRR := Lib.hid hR
              clear hm hw hmap
              go_wp2_with (at_builtin; refine wpList_push2 _ rfl _ _ 23 rfl (W.heap.size + 1) 3 i0 (.int .i64 0) 1 8 Tryd.underlying23 hi0 hz0 hz1 hz2 rfl (by decide) _ _ _ rfl (HO.out.alloc _) ⟨wr.heap.size, 0, none⟩ 1 [.int .i64 z] rfl rfl (cell_one_new _ _ _) (one1 _ _) (by unfold maxLen; omega) (by omega) (by simp; omega) ?_)
              intro g cap w7 ho7 hg7 hat7
              have hb7 := (HB.out.alloc (show W.heap.size ≤ wr.heap.size by omega) (.cells #[.int .i64 z] 3)).grown hg7 (by simp; omega) (fun k hk => by have := (HO.out.lt k hk).1; omega)
              rw [HMAP.out] at ho7
              have hir7 : IntsAt .i64 w7 (some ⟨wo.heap.size, 0, none⟩) (rest lo hi) := ints_keep HIR.out (fun _ b o s e => by
                cases e
                exact (hg7.block _ (by simp; omega) (fun e => HOB.out e.symm)).trans (Below.heap_alloc _ _ _ HRR.out))
              have hob7 : (Value.slice (some ⟨g, 0, none⟩) (ws.length + 1) cap).ownBlock ≠ some wo.heap.size := fun e => by
                rcases hat7 with h | h
                · exact HOB.out (h.trans e)
                · simp [Value.ownBlock] at e
                  try simp at h
                  omega
              have HO7 := Lib.hid ho7
              have HB7 := Lib.hid hb7
              have HIR7 := Lib.hid hir7
              have HOB7 := Lib.hid hob7
              clear ho7 hb7 hg7 hat7 hir7 hob7
              go_wp2_with fail
              go_roundw
              case rel => exact ⟨i + 1, ws ++ [z], by omega, by go_num, HW, by rw [List.length_append]; exact HO7.out, HOB7.out, HIR7.out, HB7.out⟩
              case measure => simp [intOf]; omega
        · obtain rfl : i = 3 := by omega
          have hfin := hw.out.fin
          obtain ⟨ao, ac, rfl⟩ := owns_shape ho
          have hi1 := IntsAt.of_owns ho
          have HE := Lib.hid (edges_ok lo hi wr h1 h2 h3)
          rw [← hfin] at HE
          have HI1 := Lib.hid hi1
          have HB := Lib.hid hb
          clear hfin hw ho hob hir hb hi1
          go_wp2_with fail
          refine HE.out.mono ?_
          clear HE
          rintro e w2 ⟨g, cap, rfl, ho2, hb2⟩
          have HI2 := Lib.hid (IntsAt.of_owns ho2)
          have HJ2 := Lib.hid (HI1.out.below (Nat.le_refl _) hb2)
          have HB2 := Lib.hid (HB.out.trans (hb2.mono HB.out.size))
          clear ho2 hb2 HI1 HB
          go_wp2_with fail
          refine (error_same .nilIface 0 (.inl ⟨rfl, rfl⟩) w2 (HG.out.below HB2.out)).mono ?_
          rintro e w3 ⟨rfl, hb3⟩
          have HS := Lib.hid (ints_same ws (some ⟨g, 0, none⟩) ao cap ac w3 (HI2.out.below (Nat.le_refl _) hb3) (HJ2.out.below (Nat.le_refl _) hb3) hwl)
          have HB3 := Lib.hid (HB2.out.trans (hb3.mono HB2.out.size))
          clear hb3 HI2 HJ2 HB2
          go_wp2_with fail
          refine HS.out.mono ?_
          clear HS
          rintro e w4 ⟨rfl, hb4⟩
          have HB4 := Lib.hid (HB3.out.trans (hb4.mono HB3.out.size))
          clear hb4 HB3
          by_cases hn : n < 1 ∨ hi - lo + 1 < n ∨ 1000 < n
          · have HN := Lib.hid hn
            have hcs : n < 1 ∨ (1 ≤ n ∧ hi - lo + 1 < n) ∨ (1 ≤ n ∧ n ≤ hi - lo + 1 ∧ 1000 < n) := by omega
            clear hn
            rcases hcs with n1 | ⟨n1, n2⟩ | ⟨n1, n2, n3⟩
            all_goals
              go_wp2_with fail
              refine (parts_bad lo hi n w4 h1 h2 h3 HN.out).mono ?_
              rintro e w5 ⟨rfl, rfl⟩
              go_wp2_with fail
              refine (error_same _ 1 (.inr rfl) w4 (HG.out.below HB4.out)).mono ?_
              rintro e w5 ⟨rfl, hb5⟩
              have HB5 := Lib.hid (HB4.out.trans (hb5.mono HB4.out.size))
              clear hb5
              go_wp2_with fail
              refine (five_nine w5).mono ?_
              rintro e w6 ⟨⟨g9, c9, rfl⟩, hb6⟩
              have HB6 := Lib.hid (HB5.out.trans (hb6.mono HB5.out.size))
              clear hb6
              go_wp2_with fail
              go_ret
              exact ⟨rfl, HB6.out⟩
          · obtain ⟨N, rfl⟩ := Int.eq_ofNat_of_zero_le (show 0 ≤ n by omega)
            have n1 : 1 ≤ (N : Int) := by omega
            have n2 : (N : Int) ≤ hi - lo + 1 := by omega
            have n3 : (N : Int) ≤ 1000 := by omega
            have HP := Lib.hid (parts_ok lo hi N w4 h1 h2 h3 (by omega) n2 (by omega))
            clear hn
            go_wp2_with fail
            refine HP.out.mono ?_
            clear HP
            rintro e w5 ⟨gp, cp, rfl, _, hb5⟩
            have HB5 := Lib.hid (HB4.out.trans (hb5.mono HB4.out.size))
            clear hb5
            go_wp2_with fail
            refine (error_same .nilIface 0 (.inl ⟨rfl, rfl⟩) w5 (HG.out.below HB5.out)).mono ?_
            rintro e w6 ⟨rfl, hb6⟩
            have HB6 := Lib.hid (HB5.out.trans (hb6.mono HB5.out.size))
            clear hb6
            go_wp2_with fail
            refine (five_nine w6).mono ?_
            rintro e w7 ⟨⟨g9, c9, rfl⟩, hb7⟩
            have HB7 := Lib.hid (HB6.out.trans (hb7.mono HB6.out.size))
            clear hb7
            have hnn : ((N : Int) == (N : Int)) = true := by simp
            go_wp2_with fail
            go_ret
            exact ⟨by simp, HB7.out⟩
end Go.Proofs.YtlmhdklleenjbaaDoor
