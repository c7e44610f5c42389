/- assayerref2.LevelFault, RowFault, MissingOf; assayersame.Fours of one list. No conditions. -/
import Derived.Test.YtebkgkcfcenkgaaDoorPw5
import Derived.ChangeKeysEq
namespace Go.Proofs.YtebkgkcfcenkgaaDoor
open Go.RowKit Go.Mine Go.Mine.Pw

def levelF (L : List Int) (c : Int) : Prop := (okL L ∧ c = 0) ∨ (¬ okL L ∧ c = pfault L)
set_option maxHeartbeats 600000 in
theorem levelFault_any (L : List Int) (ao : Option Addr) (c : Nat) (w : World) (hx : IntsAt .i64 w ao L) (hl : L.length ≤ maxLen) :
    Calls Tryd.prog 4 #[.slice ao L.length c] w fun e w' => (∃ c, e = .returned (.int .i64 c) ∧ levelF L c) ∧ w = w' := by
  unfold maxLen at hl
  have HX := Lib.hid hx; clear hx
  by_cases h12 : 12 < L.length
  · have hb : decide ((12 : Int) < (L.length : Int)) = true := by simp; omega
    have HP := Lib.hid (show pfault L = 4 by unfold pfault; rw [if_pos h12])
    have HN := Lib.hid (show ¬ okL L from fun h => by have := h.1; omega)
    clear h12
    go_enter Tryd.func4, Tryd.ntmps4
    go_wp2_with fail
    go_ret
    exact ⟨⟨4, rfl, .inr ⟨HN.out, HP.out.symm⟩⟩, rfl⟩
  have hb : decide ((12 : Int) < (L.length : Int)) = false := by simp; omega
  have HP := Lib.hid (show pfault L = 1 by unfold pfault; rw [if_neg h12])
  go_enter Tryd.func4, Tryd.ntmps4
  go_wp2_with fail
  go_loop [3] (fun i => ∃ k : Nat, i = .int .i64 k ∧ k ≤ L.length ∧ RowKit.Hid (∀ j, j < k → 1 ≤ L.getD j 0 ∧ L.getD j 0 ≤ 5)) (fun i => L.length - (intOf i).toNat)
  case atStart => exact ⟨0, rfl, by omega, Lib.hid (fun j hj => by omega)⟩
  case round =>
    obtain ⟨k, rfl, hk, hall⟩ := hrel
    by_cases hlt : k < L.length
    · obtain ⟨b, o, rfl, hc⟩ := HX.out k hlt
      have hmem : L.getD k 0 ∈ L := by simp [hlt]
      obtain ⟨z, hz⟩ : ∃ z, z = L.getD k 0 := ⟨_, rfl⟩
      rw [← hz] at hc hmem
      have HZ := Lib.hid hz
      have HM := Lib.hid hmem
      clear hz hmem
      by_cases h1 : z < 1
      · have hd1 : decide (z < 1) = true := decide_eq_true h1
        have HN := Lib.hid (show ¬ okL L from fun h => by have := h.2 z HM.out; omega)
        clear h1
        go_wp2_with fail
        go_ret
        exact ⟨⟨1, rfl, .inr ⟨HN.out, HP.out.symm⟩⟩, rfl⟩
      have hd1 : decide (z < 1) = false := decide_eq_false h1
      by_cases h2 : 5 < z
      · have hd2 : decide (5 < z) = true := decide_eq_true h2
        have HN := Lib.hid (show ¬ okL L from fun h => by have := h.2 z HM.out; omega)
        clear h1 h2
        go_wp2_with fail
        go_ret
        exact ⟨⟨1, rfl, .inr ⟨HN.out, HP.out.symm⟩⟩, rfl⟩
      have hd2 : decide (5 < z) = false := decide_eq_false h2
      have HJ := Lib.hid (show ∀ j, j < k + 1 → 1 ≤ L.getD j 0 ∧ L.getD j 0 ≤ 5 from fun j hj => by
        by_cases e : j = k
        · rw [e, ← HZ.out]; omega
        · exact hall.out j (by omega))
      clear h1 h2 hall
      go_wp2_with fail
      go_round
      case rel => exact ⟨k + 1, by go_num, by omega, HJ⟩
      case measure => simp [intOf]; omega
    · have hke : k = L.length := by omega
      subst hke
      have HO := Lib.hid (show okL L from ⟨by omega, fun x hx => by
        obtain ⟨j, hj, rfl⟩ := List.mem_iff_getElem.1 hx
        have := hall.out j hj
        simpa [hj] using this⟩)
      clear hall
      go_wp2_with fail
      go_ret
      exact ⟨⟨0, rfl, .inl ⟨HO.out, rfl⟩⟩, rfl⟩

def rowF (L r : List Int) (b : Bool) : Prop := b = true ↔ ¬ okRow L r
set_option maxHeartbeats 600000 in
theorem rowFault_any (L r : List Int) (lo ro : Option Addr) (lc rc : Nat) (w : World) (hx : IntsAt .i64 w lo L) (hl : L.length ≤ maxLen) (hr : IntsAt .i64 w ro r) (hrl : r.length ≤ maxLen) :
    Calls Tryd.prog 7 #[.slice lo L.length lc, .slice ro r.length rc] w fun e w' => (∃ b, e = .returned (.bool b) ∧ rowF L r b) ∧ Below w.heap.size w w' := by
  unfold maxLen at hl hrl
  have HX := Lib.hid hx
  have HRI := Lib.hid hr
  clear hx hr
  by_cases hlen : r.length = L.length
  rotate_left
  · have hb : ((r.length : Int) != (L.length : Int)) = true := by rw [bne_iff_ne]; omega
    have HN := Lib.hid (show rowF L r true from ⟨fun _ h => hlen h.1, fun _ => rfl⟩)
    clear hlen
    go_enter Tryd.func7, Tryd.ntmps7
    go_wp2_with fail
    go_ret
    exact ⟨⟨true, rfl, HN.out⟩, Below.refl _ _⟩
  have hb : ((r.length : Int) != (L.length : Int)) = false := by rw [bne_eq_false_iff_eq]; omega
  have HLEN := Lib.hid hlen
  clear hlen
  go_enter Tryd.func7, Tryd.ntmps7
  go_wp2_with fail
  go_loopw [5] (fun iv wr => ∃ i nq : Nat, iv = .int .i64 i ∧ i ≤ r.length ∧ RowKit.Hid (∀ j, j < i → 0 ≤ r.getD j 0 ∧ r.getD j 0 < L.getD j 0) ∧ wr = w.drewN nq) (fun iv _ => r.length - (intOf iv).toNat)
  case atStart => exact ⟨0, 0, rfl, by omega, Lib.hid (fun j hj => by omega), (drewN_zero w).symm⟩
  case round =>
    obtain ⟨i, nq, rfl, hi, hin, rfl⟩ := hrel
    by_cases hir : i < r.length
    · obtain ⟨b1, o1, rfl, hc1⟩ := HRI.out i hir
      have hiL : i < L.length := by have := HLEN.out; omega
      obtain ⟨b2, o2, rfl, hc2⟩ := HX.out i hiL
      have hiL2 : (i : Int) < (L.length : Int) := by omega
      have hir2 : (i : Int) < (r.length : Int) := by omega
      have hi0 : (0 : Int) ≤ (i : Int) := by omega
      obtain ⟨u, hu⟩ : ∃ u, u = r.getD i 0 := ⟨_, rfl⟩
      obtain ⟨v, hv⟩ : ∃ v, v = L.getD i 0 := ⟨_, rfl⟩
      rw [← hu] at hc1
      rw [← hv] at hc2
      have HU := Lib.hid hu
      have HV := Lib.hid hv
      clear hu hv
      by_cases h0 : u < 0
      · have hd : decide (u < 0) = true := decide_eq_true h0
        have HN := Lib.hid (show rowF L r true from ⟨fun _ h => by have := (h.2 i hiL).1; rw [← HU.out] at this; omega, fun _ => rfl⟩)
        clear h0 hin
        go_wp2_with fail
        go_quiet (fail)
        go_wp2_with fail
        go_ret
        exact ⟨⟨true, rfl, HN.out⟩, below_drewN (below_drewN (Below.refl _ _) _) _⟩
      have hd : decide (u < 0) = false := decide_eq_false h0
      by_cases h1 : v ≤ u
      · have hd1 : decide (v ≤ u) = true := decide_eq_true h1
        have HN := Lib.hid (show rowF L r true from ⟨fun _ h => by have := (h.2 i hiL).2; rw [← HU.out, ← HV.out] at this; omega, fun _ => rfl⟩)
        clear h0 h1 hin
        go_wp2_with fail
        go_quiet (fail)
        go_wp2_with fail
        go_ret
        exact ⟨⟨true, rfl, HN.out⟩, below_drewN (below_drewN (Below.refl _ _) _) _⟩
      have hd1 : decide (v ≤ u) = false := decide_eq_false h1
      have HJ := Lib.hid (show ∀ j, j < i + 1 → 0 ≤ r.getD j 0 ∧ r.getD j 0 < L.getD j 0 from fun j hj => by
        by_cases e : j = i
        · rw [e, ← HU.out, ← HV.out]; omega
        · exact hin.out j (by omega))
      clear h0 h1 hin
      go_wp2_with fail
      go_quiet (fail)
      go_wp2_with fail
      go_roundw
      case rel => exact ⟨i + 1, _, by go_num, by omega, HJ, rfl⟩
      case measure => simp [intOf]; omega
    · obtain rfl : i = r.length := by omega
      have HN := Lib.hid (show rowF L r false from ⟨fun h => (by cases h), fun h => absurd (show okRow L r from ⟨HLEN.out, fun a ha => hin.out a (by have := HLEN.out; omega)⟩) h⟩)
      clear hin
      go_wp2_with fail
      go_ret
      exact ⟨⟨false, rfl, HN.out⟩, below_drewN (Below.refl _ _) _⟩

theorem missP_St (L : List Int) (rows : List (List Int)) : St L (fun p => !anyP rows p) L.length 0 0 0 = missP L rows := by rw [St_n]; rfl
set_option maxHeartbeats 4000000 in
set_option maxRecDepth 100000 in
theorem missingOf_any (L : List Int) (rows : List (List Int)) (lo ro : Option Addr) (lc rc : Nat) (W : World) (hx : IntsAt .i64 W lo L) (hok : okL L) (hr : RowsAt W ro rows) (hrl : rows.length ≤ maxLen) (hn : ∀ r ∈ rows, r.length = L.length) :
    Calls Tryd.prog 8 #[.slice lo L.length lc, .slice ro rows.length rc] W fun e w' => (∃ ao cap, e = .returned (.slice ao (missP L rows).length cap) ∧ FoursAt w' ao (missP L rows)) ∧ Below W.heap.size W w' := by
  obtain ⟨i0, hi0, hz0, hz1, hz2⟩ := info_parts infoF4
  have HX := Lib.hid (fun (w : World) (h : Below W.heap.size W w) => And.intro (hx.below (Nat.le_refl _) h) (hr.below (Nat.le_refl _) h))
  have HOK := Lib.hid hok
  have HRN := Lib.hid hn
  have h12 := hok.1
  unfold maxLen at hrl
  obtain ⟨f, hf⟩ : ∃ f : List Int → Bool, f = fun p => !anyP rows p := ⟨_, rfl⟩
  have HFE := Lib.hid hf
  clear hx hok hr hn hf
  go_enter Tryd.func8, Tryd.ntmps8
  go_wp2_with fail
  go_loopw [5, 6] (fun ov av wr => ∃ a n : Nat, av = .int .i64 a ∧ a ≤ L.length ∧ RowKit.Hid (n = (St L f a 0 0 0).length ∧ wr.ownsRow W.heap.size 40 4 ov n (flat4 (St L f a 0 0 0))) ∧ RowKit.Hid (Below W.heap.size W wr)) (fun _ av _ => L.length - (intOf av).toNat)
  case atStart => exact ⟨0, 0, rfl, by omega, Lib.hid ⟨rfl, World.ownsRow_nil _ _ _ _⟩, Lib.hid (Below.refl _ _)⟩
  case round =>
    obtain ⟨a, n, rfl, ha, ho, hb⟩ := hrel
    have HO := Lib.hid ho.out
    have HB := Lib.hid hb.out
    clear ho
    by_cases haL : a < L.length
    · obtain ⟨b0, o0, rfl, _⟩ := (HX.out wr hb.out).1 a haL
      have HCA := Lib.hid (show ∀ w, Below W.heap.size W w → w.cell? ⟨b0, o0 + a, none⟩ = some (.int .i64 (lv L a : Nat)) from fun w hw => by
        obtain ⟨_, _, he, hca⟩ := (HX.out w hw).1 a haL
        cases he
        rw [hca, (HOK.out.lv haL).1])
      obtain ⟨_, hla1, hla5⟩ := HOK.out.lv haL
      obtain ⟨la, hlae⟩ : ∃ la, la = lv L a := ⟨_, rfl⟩
      rw [← hlae] at hla1 hla5 HCA
      have HLA := Lib.hid hlae
      have haL2 : (a : Int) < (L.length : Int) := by omega
      clear hlae hb
      go_wp2_with fail
      go_loopw [5, 7] (fun ov xv wr => ∃ x n : Nat, xv = .int .i64 x ∧ x ≤ la ∧ RowKit.Hid (n = (St L f a x 0 0).length ∧ wr.ownsRow W.heap.size 40 4 ov n (flat4 (St L f a x 0 0))) ∧ RowKit.Hid (Below W.heap.size W wr)) (fun _ xv _ => la - (intOf xv).toNat)
      case atStart => exact ⟨0, n, rfl, by omega, HO, HB⟩
      clear HO HB
      case round =>
        obtain ⟨x, n, rfl, hx, ho, hb⟩ := hrel
        have HO := Lib.hid ho.out
        have HB := Lib.hid hb.out
        have hca := HCA.out wr hb.out
        clear ho hb
        by_cases hxl : x < la
        · go_wp2_with fail
          go_loopw [5, 8] (fun ov bv wr => ∃ k n : Nat, bv = .int .i64 ((a + 1 + k : Nat) : Int) ∧ a + 1 + k ≤ L.length ∧ RowKit.Hid (n = (St L f a x k 0).length ∧ wr.ownsRow W.heap.size 40 4 ov n (flat4 (St L f a x k 0))) ∧ RowKit.Hid (Below W.heap.size W wr)) (fun _ bv _ => L.length - (intOf bv).toNat)
          case atStart => exact ⟨0, n, by go_num, by omega, HO, HB⟩
          clear HO HB hca
          case round =>
            obtain ⟨k, n, rfl, hk, ho, hb⟩ := hrel
            have HO := Lib.hid ho.out
            have HB := Lib.hid hb.out
            clear ho
            obtain ⟨b, hbe⟩ : ∃ b, b = a + 1 + k := ⟨_, rfl⟩
            rw [← hbe] at hk ⊢
            have HBE := Lib.hid hbe
            have hab : a + 1 ≤ b := by omega
            have hkb : k ≤ 12 := by omega
            by_cases hbL : b < L.length
            · have HCB := Lib.hid (show ∀ w, Below W.heap.size W w → w.cell? ⟨b0, o0 + b, none⟩ = some (.int .i64 (lv L b : Nat)) from fun w hw => by
                obtain ⟨_, _, he, hcb⟩ := (HX.out w hw).1 b hbL
                cases he
                rw [hcb, (HOK.out.lv hbL).1])
              obtain ⟨_, hlb1, hlb5⟩ := HOK.out.lv hbL
              obtain ⟨lb, hlbe⟩ : ∃ lb, lb = lv L b := ⟨_, rfl⟩
              rw [← hlbe] at hlb1 hlb5 HCB
              have HLB := Lib.hid hlbe
              have hbL2 : (b : Int) < (L.length : Int) := by omega
              clear hlbe hb hbe
              go_wp2_with fail
              go_loopw [5, 9] (fun ov yv wr => ∃ y n : Nat, yv = .int .i64 y ∧ y ≤ lb ∧ RowKit.Hid (n = (St L f a x k y).length ∧ wr.ownsRow W.heap.size 40 4 ov n (flat4 (St L f a x k y))) ∧ RowKit.Hid (Below W.heap.size W wr)) (fun _ yv _ => lb - (intOf yv).toNat)
              case atStart => exact ⟨0, n, rfl, by omega, HO, HB⟩
              clear HO HB
              case round =>
                obtain ⟨y, n, rfl, hy, ho, hb⟩ := hrel
                have HO := Lib.hid ho.out.2
                have HN := Lib.hid ho.out.1
                have HB := Lib.hid hb.out
                have hbs := hb.out.size
                have hn4 : n ≤ 4000 := by
                  rw [ho.out.1]
                  exact St_len HOK.out _ (by omega) (by omega) hkb (by omega)
                have hcb := HCB.out wr hb.out
                have HROW := Lib.hid (HX.out wr hb.out).2
                clear ho hb
                by_cases hyl : y < lb
                · go_wp2_with fail
                  go_loop [10, 11] (fun hv iv => ∃ (t : Bool) (i : Nat), hv = .bool t ∧ iv = .int .i64 i ∧ i ≤ rows.length ∧ RowKit.Hid (t = (rows.take i).any fun r => hasP r (four a x b y))) (fun _ iv => rows.length - (intOf iv).toNat)
                  case atStart => exact ⟨false, 0, rfl, rfl, by omega, Lib.hid (by simp)⟩
                  case round =>
                    obtain ⟨t, i, rfl, rfl, hi, ht⟩ := hrel
                    by_cases hir : i < rows.length
                    · obtain ⟨b3, o3, r3, c3, rfl, hcr, hri, _, _, _⟩ := HROW.out i hir
                      have hrl3 : (rows.getD i []).length = L.length := HRN.out _ (by simp [hir])
                      rw [hrl3] at hcr
                      obtain ⟨b4, o4, rfl, hcu⟩ := hri a (by rw [hrl3]; exact haL)
                      obtain ⟨_, _, he, hcv⟩ := hri b (by rw [hrl3]; exact hbL)
                      cases he
                      have HST := Lib.hid (show ((rows.take (i + 1)).any fun r => hasP r (four a x b y)) = (t || ((rows.getD i []).getD a 0 == (x : Int) && (rows.getD i []).getD b 0 == (y : Int))) by
                        rw [List.take_succ_eq_append_getElem hir, List.any_append, ← ht.out]
                        have e : rows[i] = rows.getD i [] := by simp [hir]
                        rw [e]
                        simp only [List.any_cons, List.any_nil, Bool.or_false]
                        rfl)
                      obtain ⟨u, hu⟩ : ∃ u, u = (rows.getD i []).getD a 0 := ⟨_, rfl⟩
                      obtain ⟨v, hv⟩ : ∃ v, v = (rows.getD i []).getD b 0 := ⟨_, rfl⟩
                      rw [← hu] at hcu HST
                      rw [← hv] at hcv HST
                      clear hu hv hri hrl3 ht
                      cases t with
                      | true =>
                        have HS2 := Lib.hid (HST.out.trans (show (true || (u == (x : Int) && v == (y : Int))) = true from rfl))
                        clear HST
                        go_wp2_with fail
                        go_round
                        case rel => exact ⟨true, i + 1, rfl, by go_num, by omega, Lib.hid HS2.out.symm⟩
                        case measure => simp [intOf]; omega
                      | false =>
                        by_cases h1 : u = (x : Int)
                        · have hd1 : (u == (x : Int)) = true := beq_iff_eq.2 h1
                          rw [hd1] at HST
                          clear h1
                          by_cases h2 : v = (y : Int)
                          · have hd2 : (v == (y : Int)) = true := beq_iff_eq.2 h2
                            rw [hd2] at HST
                            clear h2
                            go_wp2_with fail
                            go_round
                            case rel => exact ⟨true, i + 1, rfl, by go_num, by omega, Lib.hid HST.out.symm⟩
                            case measure => simp [intOf]; omega
                          · have hd2 : (v == (y : Int)) = false := beq_eq_false_iff_ne.2 h2
                            rw [hd2] at HST
                            clear h2
                            go_wp2_with fail
                            go_round
                            case rel => exact ⟨false, i + 1, rfl, by go_num, by omega, Lib.hid HST.out.symm⟩
                            case measure => simp [intOf]; omega
                        · have hd1 : (u == (x : Int)) = false := beq_eq_false_iff_ne.2 h1
                          rw [hd1] at HST
                          clear h1
                          go_wp2_with fail
                          go_round
                          case rel => exact ⟨false, i + 1, rfl, by go_num, by omega, Lib.hid HST.out.symm⟩
                          case measure => simp [intOf]; omega
                    · obtain rfl : i = rows.length := by omega
                      have hft : f (four a x b y) = !t := by rw [HFE.out, ht.out, List.take_length]; rfl
                      have HSY := Lib.hid (St_y L f a x k y)
                      rw [← HBE.out, hft] at HSY
                      clear ht hft
                      cases t with
                      | true =>
                        have HS2 := Lib.hid (show St L f a x k (y + 1) = St L f a x k y by rw [HSY.out]; simp)
                        go_wp2_with fail
                        go_roundw
                        case rel => exact ⟨y + 1, n, by go_num, by omega, Lib.hid (by rw [HS2.out]; exact ⟨HN.out, HO.out⟩), HB⟩
                        case measure => simp [intOf]; omega
                      | false =>
                        have HS2 := Lib.hid (show St L f a x k (y + 1) = St L f a x k y ++ [four a x b y] by rw [HSY.out]; simp)
                        have HFL := Lib.hid (show flat4 (St L f a x k y) ++ [.int .i64 (a : Int), .int .i64 (x : Int), .int .i64 (b : Int), .int .i64 (y : Int)] = flat4 (St L f a x k (y + 1)) by
                          rw [HS2.out, flat4_append]; rfl)
                        have HN1 := Lib.hid (show n + 1 = (St L f a x k (y + 1)).length by rw [HS2.out, List.length_append, HN.out]; rfl)
                        go_wp2_with (at_builtin; refine wpList_push _ rfl _ _ 31 rfl W.heap.size 40 i0 (.agg #[.int .i64 0, .int .i64 0, .int .i64 0, .int .i64 0]) 4 32 Tryd.underlying31 hi0 hz0 hz1 hz2 rfl (by decide) _ _ _ rfl (HO.out.alloc _) ⟨wr.heap.size, 0, none⟩ 1 [.int .i64 (a : Int), .int .i64 (x : Int), .int .i64 (b : Int), .int .i64 (y : Int)] rfl rfl (World.news_of_block (cs := #[.int .i64 (a : Int), .int .i64 (x : Int), .int .i64 (b : Int), .int .i64 (y : Int)]) (t := 40) (fr := (0, 0)) (heap_alloc_new wr _)) (by intro u hu; simp at hu; rcases hu with rfl | rfl | rfl | rfl <;> rfl) (by unfold maxLen; omega) (by omega) (by simp; omega) ?_)
                        intro g1 cap w5 hv5 hg5
                        have HB5 := Lib.hid ((HB.out.alloc hbs (.cells #[.int .i64 (a : Int), .int .i64 (x : Int), .int .i64 (b : Int), .int .i64 (y : Int)] 40)).grown hg5 (by simp; omega) (fun k hk => (HO.out.lt k hk).1))
                        rw [HFL.out] at hv5
                        have HV5 := Lib.hid (And.intro HN1.out hv5)
                        clear hv5 hg5
                        go_wp2_with fail
                        go_roundw
                        case rel => exact ⟨y + 1, n + 1, by go_num, by omega, HV5, HB5⟩
                        case measure => simp [intOf]; omega
                · obtain rfl : y = lb := by omega
                  have HE := Lib.hid (show St L f a x (k + 1) 0 = St L f a x k y by rw [St_b, HLB.out, HBE.out])
                  go_wp2_with fail
                  go_roundw
                  case rel => exact ⟨k + 1, n, by have := HBE.out; go_num, by have := HBE.out; omega, Lib.hid (by rw [HE.out]; exact ⟨HN.out, HO.out⟩), HB⟩
                  case measure => have := HBE.out; simp [intOf]; omega
            · have HE := Lib.hid (show St L f a (x + 1) 0 0 = St L f a x k 0 by rw [St_x, show L.length - (a + 1) = k by omega])
              clear hb
              go_wp2_with fail
              go_roundw
              case rel => exact ⟨x + 1, n, by go_num, by omega, Lib.hid (by rw [HE.out]; exact HO.out), HB⟩
              case measure => simp [intOf]; omega
        · obtain rfl : x = la := by omega
          have HE := Lib.hid (show St L f (a + 1) 0 0 0 = St L f a x 0 0 by rw [St_a, HLA.out])
          go_wp2_with fail
          go_roundw
          case rel => exact ⟨a + 1, n, by go_num, by omega, Lib.hid (by rw [HE.out]; exact HO.out), HB⟩
          case measure => simp [intOf]; omega
    · obtain rfl : a = L.length := by omega
      have HE := Lib.hid (show St L f L.length 0 0 0 = missP L rows by rw [HFE.out]; exact missP_St L rows)
      obtain ⟨ao9, cap9, hv9⟩ := owns_shape HO.out.2
      subst hv9
      have hn9 : n = (missP L rows).length := by rw [HO.out.1, HE.out]
      have ho9 := HO.out.2
      rw [HE.out] at ho9
      subst hn9
      have HF9 := Lib.hid (FoursAt.of_owns (fun r hr => St_four L r (List.mem_filter.1 hr).1) ho9)
      clear hb ho9
      go_wp2_with fail
      go_ret
      exact ⟨⟨_, _, rfl, HF9.out⟩, HB.out⟩

theorem cells3 : Tryd.prog.cellsOf 3 = 1 := by kernel_rfl
theorem four_und : Tryd.prog.underlying 40 = some (.array 4 3) := by kernel_rfl
theorem four_guard : Tryd.prog.eqGuardType Tryd.prog.depth 40 = false := by kernel_rfl
theorem four_neq (a b c d : Int) (w : World) : (binOp .neq 40 (.agg #[.int .i64 a, .int .i64 b, .int .i64 c, .int .i64 d]) (.agg #[.int .i64 a, .int .i64 b, .int .i64 c, .int .i64 d])).run Tryd.prog w = .ok (.bool false) w := by
  obtain ⟨i0, hi0, _⟩ := info_parts infoI3
  rw [run_neq_struct, run_equalIn_array w 9999 _ _ four_und hi0, cells3]
  simp [List.range, List.range.loop, Op.eqItems, go_sem]
set_option maxHeartbeats 1000000 in
/-- Two lists of fours that are the same. -/
theorem fours_same (l : List (List Int)) (ao bo : Option Addr) (ac bc : Nat) (w : World) (hx : FoursAt w ao l) (hy : FoursAt w bo l) (h4 : ∀ r ∈ l, r.length = 4) (hl : l.length ≤ maxLen) :
    Calls Tryd.prog 10 #[.slice ao l.length ac, .slice bo l.length bc] w fun e w' => e = .returned (.bool true) ∧ Below w.heap.size w w' := by
  unfold maxLen at hl
  have HX := Lib.hid hx
  have HY := Lib.hid hy
  have H4 := Lib.hid h4
  clear hx hy h4
  have hb : ((l.length : Int) != (l.length : Int)) = false := by rw [bne_eq_false_iff_eq]
  go_enter Tryd.func10, Tryd.ntmps10
  go_wp2_with fail
  go_loopw [5] (fun iv wr => ∃ i nq : Nat, iv = .int .i64 i ∧ i ≤ l.length ∧ wr = w.drewN nq) (fun iv _ => l.length - (intOf iv).toNat)
  case atStart => exact ⟨0, 0, rfl, by omega, (drewN_zero w).symm⟩
  case round =>
    obtain ⟨i, nq, rfl, hi, rfl⟩ := hrel
    by_cases hil : i < l.length
    · obtain ⟨b1, o1, rfl, h1⟩ := HX.out i hil
      obtain ⟨b2, o2, rfl, h2⟩ := HY.out i hil
      obtain ⟨z1, z2, z3, z4, hz⟩ := four_parts (H4.out (l.getD i []) (by simp [hil]))
      rw [hz] at h1 h2
      have hc1 := h1 0 (by omega)
      have hc2 := h1 1 (by omega)
      have hc3 := h1 2 (by omega)
      have hc4 := h1 3 (by omega)
      have hd1 := h2 0 (by omega)
      have hd2 := h2 1 (by omega)
      have hd3 := h2 2 (by omega)
      have hd4 := h2 3 (by omega)
      simp only [List.getD_cons_zero, List.getD_cons_succ, Nat.add_zero] at hc1 hc2 hc3 hc4 hd1 hd2 hd3 hd4
      have hi0 : (0 : Int) ≤ (i : Int) := by omega
      have hil2 : (i : Int) < (l.length : Int) := by omega
      have hneq := fun w : World => four_neq z1 z2 z3 z4 w
      have heg := four_guard
      clear h1 h2 hz
      go_wp2_with fail
      go_quiet (fail)
      go_wp2_with fail
      go_roundw
      case rel => exact ⟨i + 1, _, by go_num, by omega, rfl⟩
      case measure => simp [intOf]; omega
    · obtain rfl : i = l.length := by omega
      go_wp2_with fail
      go_ret
      exact ⟨rfl, below_drewN (Below.refl _ _) _⟩
end Go.Proofs.YtebkgkcfcenkgaaDoor
