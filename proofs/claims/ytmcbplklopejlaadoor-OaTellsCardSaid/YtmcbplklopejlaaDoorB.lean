/- OaTells' walk: numbers that are served. CONDITION: errors.errorType holds what start-up lays there. -/
import Derived.Test.YtmcbplklopejlaaDoorA
import Derived.Test.YtmcbplklopejlaaDoorMore
import Derived.Deep.RegionHeld3
import Derived.Deep.AppendLies
import Derived.Deep.Cut
import Derived.Deep.CutBlock
namespace Go.Proofs.YtmcbplklopejlaaDoor
open Go.RowKit Go.Mine Go.Deep

def cX (n : Nat) (rows : List (List Int)) (a b x : Nat) : Bool := (List.range x).all fun x => rows.countP (oaHit n a b x) == 1
def cB (n : Nat) (rows : List (List Int)) (a b : Nat) : Bool := (List.range b).all fun b => cX n rows a b (n * n)
def cA (n : Nat) (rows : List (List Int)) (a : Nat) : Bool := (List.range a).all fun a => cB n rows a a
theorem cX_succ (n : Nat) (rows : List (List Int)) (a b x : Nat) : cX n rows a b (x + 1) = (cX n rows a b x && (rows.countP (oaHit n a b x) == 1)) := by simp [cX, List.range_succ]
theorem cB_succ (n : Nat) (rows : List (List Int)) (a b : Nat) : cB n rows a (b + 1) = (cB n rows a b && cX n rows a b (n * n)) := by simp [cB, List.range_succ]
theorem cA_succ (n : Nat) (rows : List (List Int)) (a : Nat) : cA n rows (a + 1) = (cA n rows a && cB n rows a a) := by simp [cA, List.range_succ]
theorem cA_all (n : Nat) (rows : List (List Int)) : cA n rows (n + 1) = true ↔ oaRight n rows := by
  unfold cA cB cX oaRight
  simp only [List.all_eq_true, List.mem_range, beq_iff_eq]
theorem cA_not {n : Nat} {rows : List (List Int)} {a : Nat} (ha : a ≤ n + 1) (h : cA n rows a = false) : ¬ oaRight n rows := by
  intro hr
  rw [← cA_all] at hr
  have : cA n rows a = true := by
    unfold cA at hr ⊢
    rw [List.all_eq_true] at hr ⊢
    exact fun x hx => hr x (List.mem_range.2 (by have := List.mem_range.1 hx; omega))
  rw [this] at h
  cases h
theorem wrap_small {z : Int} (h : 0 ≤ z ∧ z ≤ 1000000) : IntKind.i64.wrap z = z := IntWalk.i64_in z (by omega)
set_option maxHeartbeats 4000000 in
set_option maxRecDepth 100000 in
theorem oaTells_good (n : Nat) (rows : List (List Int)) (ao : Option Addr) (cp : Nat) (W : World) (hg : Laid W) (hx : RowsAt W ao rows) (hl : rows.length ≤ maxLen) (hq : qok (n : Int)) :
    Calls Tryd.prog 3 #[.int .i64 n, .slice ao rows.length cp] W fun e w' => e = .returned (.bool true) ∧ Below W.heap.size W w' := by
  obtain ⟨i3, hi3, hz31, hz32, hz33⟩ := info_parts infoO3
  obtain ⟨i24, hi24, hz241, hz242, hz243⟩ := info_parts infoO27
  have HG := Lib.hid hg
  have HX := Lib.hid (show ∀ w, Below W.heap.size W w → RowsAt w ao rows from fun w hb => hx.below (Nat.le_refl _) hb)
  have HXW := Lib.hid hx
  have hn2 : 2 ≤ n := by rcases hq with h | h | h | h <;> omega
  have hn7 : n ≤ 7 := by rcases hq with h | h | h | h <;> omega
  have HQ := Lib.hid hq
  have h2 : ((n : Int) != 2) = !decide (n = 2) := by by_cases h : n = 2 <;> simp [h] <;> omega
  obtain ⟨N, hN⟩ : ∃ N, N = n * n := ⟨_, rfl⟩
  have hN49 : N ≤ 49 := by rw [hN]; exact Nat.mul_le_mul hn7 hn7
  have hNN : (n : Int) * (n : Int) = (N : Int) := by rw [hN]; simp
  have HN := Lib.hid hN
  have hl2 := hl
  unfold maxLen at hl2
  clear hg hx hN h2
  have hgo : ((n : Int) != 2) = false ∨ (((n : Int) != 2) = true ∧ ((n : Int) != 3) = false) ∨ (((n : Int) != 2) = true ∧ ((n : Int) != 3) = true ∧ ((n : Int) != 5) = false) ∨ (((n : Int) != 2) = true ∧ ((n : Int) != 3) = true ∧ ((n : Int) != 5) = true ∧ ((n : Int) != 7) = false) := by
    rcases HQ.out with h | h | h | h <;> rw [h] <;> decide
  go_enter Tryd.func3, Tryd.ntmps3
  go_upto_region 2 with fail
  go_cut [39] from 26 to 39 (fun ev wx => ev = .bool false ∧ W = wx)
  case first =>
    rcases hgo with h | ⟨h, h'⟩ | ⟨h, h', h''⟩ | ⟨h, h', h'', h'''⟩
    all_goals
      go_wp2_with fail
      go_meet
      exact ⟨rfl, rfl⟩
  case rest =>
    obtain ⟨rfl, rfl⟩ := hcut
    clear hgo
    go_wp2_with fail
    go_loopw [6, 7] (fun ov iv wr => ∃ (i : Nat) (vs : List Value), iv = .int .i64 i ∧ i ≤ N ∧ RowKit.Hid (Outs W wr 24 ov vs (oaRowsK n i))) (fun _ iv _ => N - (intOf iv).toNat)
    case atStart => exact ⟨0, [], rfl, by omega, Lib.hid (Outs.nil (Below.refl _ _))⟩
    case round =>
      obtain ⟨i, vs, rfl, hi, ho⟩ := hrel
      by_cases hiN : i < N
      · obtain ⟨w2, hw2⟩ : ∃ w2, w2 = wr := ⟨_, rfl⟩
        subst hw2
        obtain ⟨x, hx⟩ : ∃ x, x = i / n := ⟨_, rfl⟩
        obtain ⟨y, hy⟩ : ∃ y, y = i % n := ⟨_, rfl⟩
        have hx1 : (i : Int).tdiv (n : Int) = (x : Int) := by rw [hx]; rfl
        have hx2 : (i : Int) / (n : Int) = (x : Int) := by rw [hx]; simp
        have hy1 : (i : Int).tmod (n : Int) = (y : Int) := by rw [hy]; rfl
        have hx7 : x ≤ 7 := by rw [hx]; exact Nat.le_trans (Nat.div_le_div_right (show i ≤ n * n by rw [← HN.out]; omega)) (by rw [Nat.mul_div_cancel_left _ (by omega)]; exact hn7)
        have hy7 : y < n := by rw [hy]; exact Nat.mod_lt _ (by omega)
        have HXY := Lib.hid (And.intro hx hy)
        have HLIT := Lib.hid (World.ownsRow_lit (base := w2.heap.size) (e := 3) (size := 1) w2 #[.int .i64 (x : Int)] 1 (Nat.le_refl _) (by decide) (by simp))
        have HO := Lib.hid ho.out
        clear ho hx hy
        go_wp2_with fail
        go_loopw [8, 9] (fun rv mv wr => ∃ (m g cap : Nat), mv = .int .i64 m ∧ m ≤ n ∧ rv = .slice (some ⟨g, 0, none⟩) (m + 1) cap ∧ RowKit.Hid (wr.ownsRow w2.heap.size 3 1 rv (m + 1) ((oaRowK n x y m).map (Value.int .i64))) ∧ RowKit.Hid (Below w2.heap.size w2 wr)) (fun _ mv _ => n - (intOf mv).toNat)
        case atStart => exact ⟨0, w2.heap.size, 1, rfl, by omega, rfl, HLIT, Lib.hid ((Below.refl _ _).alloc (Nat.le_refl _) _)⟩
        clear HLIT
        case round =>
          obtain ⟨m, g, cap, rfl, hm, rfl, hr, hbr⟩ := hrel
          have hsz := hbr.out.size
          by_cases hmn : m < n
          · obtain ⟨p, hp⟩ : ∃ p, p = m * x := ⟨_, rfl⟩
            obtain ⟨t, ht⟩ : ∃ t, t = (p + y) % n := ⟨_, rfl⟩
            have hp49 : p ≤ 49 := by rw [hp]; exact Nat.mul_le_mul (show m ≤ 7 by omega) hx7
            have h0 : IntKind.i64.wrap (x : Int) = (x : Int) := wrap_small (by omega)
            have h3 : IntKind.i64.wrap ((m : Int) * (x : Int)) = (p : Int) := by
              have e : (m : Int) * (x : Int) = (p : Int) := by rw [hp]; simp
              rw [e]; exact wrap_small (by omega)
            obtain ⟨s, hs⟩ : ∃ s, s = p + y := ⟨_, rfl⟩
            have h4 : IntKind.i64.wrap ((p : Int) + (y : Int)) = (s : Int) := by
              have e : (p : Int) + (y : Int) = (s : Int) := by rw [hs]; simp
              rw [e]; exact wrap_small (by omega)
            have h5 : (s : Int).tmod (n : Int) = (t : Int) := by rw [ht, ← hs]; rfl
            have HM := Lib.hid (show ((oaRowK n x y m).map (Value.int .i64)) ++ [.int .i64 (t : Int)] = (oaRowK n x y (m + 1)).map (Value.int .i64) by
              rw [oaRowK_succ, ht, hp]; simp)
            have HBR := Lib.hid hbr.out
            have HR := Lib.hid hr.out
            clear hbr hr hp ht hs
            have hn0 : ¬ ((n : Int) = 0) := by omega
            have hn00 : ¬ (n = 0) := by omega
            have hbr2 := HBR.out
            have hgl := (HR.out.lt g rfl)
            go_wp2_with fail
            go_region_held3 (fun w' => Below w2.heap.size w2 w')
              (first
                | (go_keep; done)
                | (repeat' (first | assumption | exact Below.refl _ _ | refine Below.drew ?_ | refine Below.alloc ?_ (Below.size (B := w2.heap.size) ?_) _)))
              (first
              | ((refine step_append_any _ rfl (.tmp 60) (.tmp 72) 24 rfl w2.heap.size 3 i3 _ 1 8 Tryd.underlying24 hi3 hz31 hz32 hz33 rfl (by decide) _ (m + 1) _ ((oaRowK n x y m).map (Value.int .i64)) rfl ((HR.out.alloc _).drew) (some ⟨_, 0, none⟩) 1 1 [.int .i64 (t : Int)] rfl rfl (by simp) ?_ (one1 _ _) ?_ ?_ ?_ _ rfl ?_)
                 · intro ad had
                   cases had
                   exact World.news_of_block (cs := #[.int .i64 (t : Int)]) (t := 3) (fr := (0, 0)) (heap_drew_at (heap_alloc_at _ _ rfl))
                 · unfold maxLen; omega
                 · omega
                 · first | omega | (simp; try omega)
                 intro g8 cap8 w8 hown8 hgrow8 hat8 hlt8
                 have hb8 : Below w2.heap.size w2 w8 := Below.grown (by assumption) hgrow8 (by first | omega | (simp; try omega)) (by intro k hk; cases hk; exact hgl.1)))
            rw [HM.out] at hown8
            have HO8 := Lib.hid hown8
            have HB8 := Lib.hid hb8
            clear hown8 hb8 hgrow8 hat8 hlt8 hgl hbr2 h0 h3 h4 h5 HR HBR
            go_wp2_with fail
            go_roundw
            case rel => exact ⟨m + 1, g8, cap8, by go_num, by omega, rfl, HO8, HB8⟩
            case measure => simp [intOf]; omega
          · obtain rfl : m = n := by omega
            have HNC := Lib.hid (own_cap hr.out)
            have HLEN := Lib.hid (show (oaRow m x y).length = m + 1 from oaRowK_len m x y m)
            have HRI := Lib.hid (show IntsAt .i64 wr (some ⟨g, 0, none⟩) (oaRow m x y) from IntsAt.of_owns hr.out)
            have HRO := Lib.hid (own_off hr.out (ov := u6) (fun b hb => (HO.out.own.lt b hb).2))
            have HO2 := Lib.hid (HO.out.keep hbr.out)
            have hs1 := HO2.out.below.size
            have HRL := Lib.hid (oaRowsK_len m i)
            have hown := HO2.out.own
            rw [HRL.out] at hown
            have HOW := Lib.hid hown
            clear hr hbr HO hown
            go_wp2_with (at_builtin; refine wpList_push2 _ rfl _ _ 22 rfl W.heap.size 24 i24 (.slice none 0 0) 1 24 Tryd.underlying22 hi24 hz241 hz242 hz243 rfl (by decide) _ _ _ rfl (HOW.out.alloc _) ⟨wr.heap.size, 0, none⟩ 1 [.slice (some ⟨g, 0, none⟩) (m + 1) cap] rfl rfl (cell_one_new _ _ _) (by intro u hu; simp at hu; subst hu; rfl) (by unfold maxLen; omega) (by omega) (by simp; omega) ?_)
            intro g7 cap7 w7 ho7 hg7 hw7
            have HO8 := Lib.hid (HO2.out.push (r := oaRow m x y) HLEN.out HRI.out (by unfold maxLen; omega) HNC.out.2 HNC.out.1 HRO.out (by rw [HRL.out]) ho7 hg7 hw7)
            have HRS := Lib.hid (show oaRowsK m i ++ [oaRow m x y] = oaRowsK m (i + 1) by
              rw [oaRowsK_succ, HXY.out.1, HXY.out.2])
            rw [HRS.out] at HO8
            clear ho7 hg7 hw7
            go_wp2_with fail
            go_roundw
            case rel => exact ⟨i + 1, _, by go_num, by omega, HO8⟩
            case measure => simp [intOf]; omega
      · obtain rfl : i = N := by omega
        obtain ⟨wo, wc, rfl⟩ := ho.out.shape
        have hrl := oaRowsK_len n i
        have hwa := ho.out.rowsAt
        rw [HN.out] at hwa
        have hbw := ho.out.below
        have HWA := Lib.hid (show ∀ w, Below wr.heap.size wr w → RowsAt w wo (oaRows n) from fun w hw => RowsAt.below hwa (Nat.le_refl _) hw)
        have HBW := Lib.hid hbw
        rw [hrl]
        have HR := Lib.hid (oarows_any (n : Int) wr)
        obtain ⟨w3, hw3⟩ : ∃ w3, w3 = wr := ⟨_, rfl⟩
        subst hw3
        clear ho hrl hwa hbw
        go_wp2_with fail
        refine HR.out.mono ?_
        clear HR
        rintro e w4 ⟨⟨h, _⟩ | ⟨_, n', lo, lc, hn', rfl, hla, hlc⟩, hb4⟩
        · exact absurd HQ.out h
        obtain rfl : n' = n := by omega
        have hb4' := HBW.out.trans (hb4.mono HBW.out.size)
        have HB4 := Lib.hid hb4'
        have HLA := Lib.hid (show ∀ w, Below w4.heap.size w4 w → RowsAt w lo (oaRows n') from fun w hw => hla.below (Nat.le_refl _) hw)
        have HWA4 := Lib.hid (show ∀ w, Below w4.heap.size w4 w → RowsAt w wo (oaRows n') from fun w hw => HWA.out w (hb4.trans (hw.mono hb4.size)))
        have HLEN := Lib.hid (show (oaRows n').length = i by rw [oaRows_len, HN.out])
        rw [← HN.out]
        clear hn' hla hlc hb4 HWA
        go_wp2_with fail
        refine (error_is _ _ 0 Num.nil w4 (HG.out.below hb4')).mono ?_
        rintro e w5 ⟨rfl, hb5⟩
        rw [eqself]
        have HRR := Lib.hid (Rows_any (oaRows n') (oaRows n') lo wo lc wc w5 (HLA.out w5 hb5) (HWA4.out w5 hb5) (by rw [HLEN.out]; omega) (by rw [HLEN.out]; omega))
        rw [HLEN.out] at HRR
        have HB5 := Lib.hid (HB4.out.trans (hb5.mono HB4.out.size))
        clear hb5 hb4' HB4
        go_wp2_with fail
        refine HRR.out.mono ?_
        clear HRR
        rintro e w6 ⟨rfl, nq, rfl⟩
        have HB6 := Lib.hid (below_drewN HB5.out nq)
        obtain ⟨w6, hw6⟩ : ∃ w6, w6 = w5.drewN nq := ⟨_, rfl⟩
        rw [← hw6] at HB6 ⊢
        rw [decide_true]
        clear hw6 HB5
        go_wp2_with fail
        go_loop [5, 14] (fun ev kv => ∃ k : Nat, kv = .int .i64 k ∧ k ≤ rows.length ∧ ((ev = .int .i64 0 ∧ RowKit.Hid (∀ j, j < k → (rows.getD j []).length = n' + 1 ∧ ∀ z ∈ rows.getD j [], 0 ≤ z ∧ z < n')) ∨ (ev = .int .i64 3 ∧ RowKit.Hid (¬ oaForm n' rows)))) (fun _ kv => rows.length - (intOf kv).toNat)
        case atStart => exact ⟨0, rfl, by omega, .inl ⟨rfl, Lib.hid (fun j hj => by omega)⟩⟩
        case round =>
          obtain ⟨k, rfl, hk, hcase⟩ := hrel
          rcases hcase with ⟨rfl, hform⟩ | ⟨rfl, hform⟩
          · by_cases hkl : k < rows.length
            · obtain ⟨b, o, ro, rc, hae, hrl, _, _, hri, hcell⟩ := HXW.out.get (j := k) hkl
              subst hae
              have hc := hcell w6 HB6.out
              obtain ⟨r, hr⟩ : ∃ r, r = rows.getD k [] := ⟨_, rfl⟩
              rw [← hr] at hc hri hrl
              have HR := Lib.hid hr
              have HRI := Lib.hid (hri.below (Nat.le_refl _) HB6.out)
              have HNO := Lib.hid (show (¬ (r.length = n' + 1 ∧ ∀ z ∈ r, 0 ≤ z ∧ z < n')) → ¬ oaForm n' rows from fun h hf => h (hf r (by rw [hr]; simp [hkl])))
              clear hr hri hcell
              unfold maxLen at hrl
              by_cases hlen : r.length = n' + 1
              · have hbn : ((r.length : Int) != (n' : Int) + 1) = false := by rw [bne_eq_false_iff_eq]; omega
                have HLR := Lib.hid hlen
                clear hlen
                go_wp2_with fail
                go_loop [5, 15] (fun ev jv => ∃ j : Nat, jv = .int .i64 j ∧ j ≤ n' + 1 ∧ ((ev = .int .i64 0 ∧ RowKit.Hid (∀ t, t < j → 0 ≤ r.getD t 0 ∧ r.getD t 0 < n')) ∨ (ev = .int .i64 3 ∧ RowKit.Hid (¬ oaForm n' rows)))) (fun _ jv => n' + 1 - (intOf jv).toNat)
                case atStart => exact ⟨0, rfl, by omega, .inl ⟨rfl, Lib.hid (fun t ht => by omega)⟩⟩
                case round =>
                  obtain ⟨j, rfl, hj, hcase⟩ := hrel
                  rcases hcase with ⟨rfl, hall⟩ | ⟨rfl, hall⟩
                  · by_cases hjn : j < n' + 1
                    · obtain ⟨b2, o2, hre, hcx⟩ := HRI.out j (by rw [HLR.out]; exact hjn)
                      subst hre
                      have HMEM := Lib.hid (show r.getD j 0 ∈ r by simp [show j < r.length by rw [HLR.out]; exact hjn])
                      obtain ⟨z, hz⟩ : ∃ z, z = r.getD j 0 := ⟨_, rfl⟩
                      rw [← hz] at hcx HMEM
                      have HZ := Lib.hid hz
                      have hjr : j < r.length := by rw [HLR.out]; exact hjn
                      clear hz
                      by_cases hz0 : z < 0
                      · have hd : decide (z < 0) = true := decide_eq_true hz0
                        have HF3 := Lib.hid (HNO.out (fun h => by have := (h.2 z HMEM.out).1; omega))
                        go_wp2_with fail
                        go_round
                        case rel => exact ⟨j + 1, by go_num, by omega, .inr ⟨rfl, HF3⟩⟩
                        case measure => simp [intOf]; omega
                      · have hd : decide (z < 0) = false := decide_eq_false hz0
                        by_cases hzn : (n' : Int) ≤ z
                        · have hd2 : decide ((n' : Int) ≤ z) = true := decide_eq_true hzn
                          have HF3 := Lib.hid (HNO.out (fun h => by have := (h.2 z HMEM.out).2; omega))
                          go_wp2_with fail
                          go_round
                          case rel => exact ⟨j + 1, by go_num, by omega, .inr ⟨rfl, HF3⟩⟩
                          case measure => simp [intOf]; omega
                        · have hd2 : decide ((n' : Int) ≤ z) = false := decide_eq_false hzn
                          have HA := Lib.hid (show ∀ t, t < j + 1 → 0 ≤ r.getD t 0 ∧ r.getD t 0 < n' from fun t ht => by
                            by_cases e : t = j
                            · rw [e, ← HZ.out]; omega
                            · exact hall.out t (by omega))
                          clear hall
                          go_wp2_with fail
                          go_round
                          case rel => exact ⟨j + 1, by go_num, by omega, .inl ⟨rfl, HA⟩⟩
                          case measure => simp [intOf]; omega
                    · have HF := Lib.hid (show ∀ t, t < k + 1 → (rows.getD t []).length = n' + 1 ∧ ∀ z ∈ rows.getD t [], 0 ≤ z ∧ z < n' from fun t ht => by
                        by_cases e : t = k
                        · rw [e, ← HR.out]
                          refine ⟨HLR.out, fun z hz => ?_⟩
                          obtain ⟨u, hu, rfl⟩ := List.mem_iff_getElem.1 hz
                          have := hall.out u (by rw [HLR.out] at hu; omega)
                          simpa [hu] using this
                        · exact hform.out t (by omega))
                      clear hall hform
                      go_wp2_with fail
                      go_round
                      case rel => exact ⟨k + 1, by go_num, by omega, .inl ⟨rfl, HF⟩⟩
                      case measure => simp [intOf]; omega
                  · clear hform
                    go_wp2_with fail
                    go_round
                    case rel => exact ⟨k + 1, by go_num, by omega, .inr ⟨rfl, hall⟩⟩
                    case measure => simp [intOf]; omega
              · have hbn : ((r.length : Int) != (n' : Int) + 1) = true := by rw [bne_iff_ne]; omega
                have HF3 := Lib.hid (HNO.out (fun h => hlen h.1))
                clear hform
                go_wp2_with fail
                go_loop [5] (fun ev => ev = .int .i64 3) (fun _ => 0)
                case atStart => rfl
                case round =>
                  obtain rfl := hrel
                  go_wp2_with fail
                  go_round
                  case rel => exact ⟨k + 1, by go_num, by omega, .inr ⟨rfl, HF3⟩⟩
                  case measure => simp [intOf]; omega
            · have HF := Lib.hid (show oaForm n' rows from fun r hr => by
                obtain ⟨j, hj, rfl⟩ := List.mem_iff_getElem.1 hr
                have := hform.out j (by omega)
                simpa [hj] using this)
              clear hform
              go_wp2_with fail
              go_loopw [16, 17] (fun gv av wr => ∃ (a nq : Nat) (g : Bool), av = .int .i64 a ∧ a ≤ n' + 1 ∧ gv = .bool g ∧ RowKit.Hid (g = cA n' rows a) ∧ wr = w6.drewN nq) (fun _ av _ => n' + 1 - (intOf av).toNat)
              case atStart => exact ⟨0, 0, true, rfl, by omega, rfl, Lib.hid rfl, (drewN_zero _).symm⟩
              case round =>
                obtain ⟨a, nq, g, rfl, ha, rfl, hgc, rfl⟩ := hrel
                by_cases hcont : g = true ∧ a < n' + 1
                · obtain ⟨rfl, han⟩ := hcont
                  have HA := Lib.hid hgc.out
                  clear hgc
                  go_wp2_with fail
                  go_loopw [16, 18] (fun gv bv wr => ∃ (b nq : Nat) (g : Bool), bv = .int .i64 b ∧ b ≤ a ∧ gv = .bool g ∧ RowKit.Hid (g = cB n' rows a b) ∧ wr = w6.drewN nq) (fun _ bv _ => a - (intOf bv).toNat)
                  case atStart => exact ⟨0, nq, true, rfl, by omega, rfl, Lib.hid rfl, rfl⟩
                  case round =>
                    obtain ⟨b, nq2, g, rfl, hb, rfl, hgb, rfl⟩ := hrel
                    by_cases hba : b < a
                    · go_wp2_with fail
                      go_loopw [16, 19] (fun gv xv wr => ∃ (x nq : Nat) (g' : Bool), xv = .int .i64 x ∧ x ≤ i ∧ gv = .bool g' ∧ RowKit.Hid (g' = (g && cX n' rows a b x)) ∧ wr = w6.drewN nq) (fun _ xv _ => i - (intOf xv).toNat)
                      case atStart => exact ⟨0, nq2, g, rfl, by omega, rfl, Lib.hid (by simp [cX]), rfl⟩
                      case round =>
                        obtain ⟨x, nq3, g', rfl, hx, rfl, hgx, rfl⟩ := hrel
                        by_cases hxi : x < i
                        · obtain ⟨u, hu⟩ : ∃ u, u = x / n' := ⟨_, rfl⟩
                          obtain ⟨v, hv⟩ : ∃ v, v = x % n' := ⟨_, rfl⟩
                          have hu1 : (x : Int).tdiv (n' : Int) = (u : Int) := by rw [hu]; rfl
                          have hv1 : (x : Int).tmod (n' : Int) = (v : Int) := by rw [hv]; rfl
                          have hu49 : u ≤ 49 := by rw [hu]; exact Nat.le_trans (Nat.div_le_self _ _) (by omega)
                          have hu0 : IntKind.i64.wrap (u : Int) = (u : Int) := wrap_small (by omega)
                          have HUV := Lib.hid (And.intro hu hv)
                          have hn0 : ¬ ((n' : Int) = 0) := by omega
                          have hn00 : ¬ (n' = 0) := by omega
                          clear hu hv
                          go_wp2_with fail
                          go_loopw [20, 21] (fun cv kv wr => ∃ (k nq c : Nat), kv = .int .i64 k ∧ k ≤ rows.length ∧ cv = .int .i64 c ∧ c ≤ k ∧ RowKit.Hid (c = (rows.take k).countP (oaHit n' a b x)) ∧ wr = w6.drewN nq) (fun _ kv _ => rows.length - (intOf kv).toNat)
                          case atStart => exact ⟨0, nq3, 0, rfl, by omega, rfl, by omega, Lib.hid (by simp), rfl⟩
                          case round =>
                            obtain ⟨k, nq4, c, rfl, hk, rfl, hck, hcc, rfl⟩ := hrel
                            by_cases hkl : k < rows.length
                            · obtain ⟨b1, o1, ro, rc, hae, hrl, _, _, hri, hcell⟩ := HXW.out.get (j := k) hkl
                              subst hae
                              have hc := hcell w6 HB6.out
                              have HFR := Lib.hid (HF.out (rows.getD k []) (by simp [hkl]))
                              have HCS := Lib.hid (show (rows.take (k + 1)).countP (oaHit n' a b x) = c + (if oaHit n' a b x (rows.getD k []) then 1 else 0) by
                                rw [List.take_succ_eq_append_getElem hkl, List.countP_append, ← hcc.out]; simp [List.countP_cons, hkl])
                              obtain ⟨r, hr⟩ : ∃ r, r = rows.getD k [] := ⟨_, rfl⟩
                              rw [← hr] at hc hri hrl HCS HFR
                              have hrn : r.length = n' + 1 := HFR.out.1
                              rw [hrn] at hc
                              obtain ⟨b2, o2, hre, hca⟩ := hri.below (Nat.le_refl _) HB6.out a (by rw [hrn]; omega)
                              obtain ⟨b3, o3, hre3, hcb⟩ := hri.below (Nat.le_refl _) HB6.out b (by rw [hrn]; omega)
                              subst hre
                              cases hre3
                              obtain ⟨za, hza⟩ : ∃ za, za = r.getD a 0 := ⟨_, rfl⟩
                              obtain ⟨zb, hzb⟩ : ∃ zb, zb = r.getD b 0 := ⟨_, rfl⟩
                              have HHIT := Lib.hid (show oaHit n' a b x r = (decide (za = (u : Int)) && decide (zb = (v : Int))) by unfold oaHit; rw [← hza, ← hzb, HUV.out.1, HUV.out.2])
                              rw [← hza] at hca
                              rw [← hzb] at hcb
                              rw [HHIT.out] at HCS
                              clear hr hri hcell hrl hrn hza hzb hcc
                              by_cases h1 : za = (u : Int)
                              · have hb1 : (za == (u : Int)) = true := by rw [beq_iff_eq]; exact h1
                                by_cases h2 : zb = (v : Int)
                                · have hb2 : (zb == (v : Int)) = true := by rw [beq_iff_eq]; exact h2
                                  have HC2 := Lib.hid (HCS.out.trans (show _ = c + 1 by rw [decide_eq_true h1, decide_eq_true h2]; rfl))
                                  clear HCS h1 h2
                                  go_wp2_with fail
                                  go_quiet (fail)
                                  go_wp2_with fail
                                  go_roundw
                                  case rel => exact ⟨k + 1, _, c + 1, by go_num, by omega, by go_num, by omega, Lib.hid HC2.out.symm, rfl⟩
                                  case measure => simp [intOf]; omega
                                · have hb2 : (zb == (v : Int)) = false := by rw [beq_eq_false_iff_ne]; exact h2
                                  have HC2 := Lib.hid (HCS.out.trans (show _ = c by rw [decide_eq_true h1, decide_eq_false h2]; rfl))
                                  clear HCS h1 h2
                                  go_wp2_with fail
                                  go_quiet (fail)
                                  go_wp2_with fail
                                  go_roundw
                                  case rel => exact ⟨k + 1, _, c, by go_num, by omega, rfl, by omega, Lib.hid HC2.out.symm, rfl⟩
                                  case measure => simp [intOf]; omega
                              · have hb1 : (za == (u : Int)) = false := by rw [beq_eq_false_iff_ne]; exact h1
                                have HC2 := Lib.hid (HCS.out.trans (show _ = c by rw [decide_eq_false h1]; rfl))
                                clear HCS h1
                                go_wp2_with fail
                                go_quiet (fail)
                                go_wp2_with fail
                                go_roundw
                                case rel => exact ⟨k + 1, _, c, by go_num, by omega, rfl, by omega, Lib.hid HC2.out.symm, rfl⟩
                                case measure => simp [intOf]; omega
                            · have hte : rows.take k = rows := List.take_of_length_le (by omega)
                              have hcc' := hcc.out
                              rw [hte] at hcc'
                              have HG2 := Lib.hid (show (g && cX n' rows a b (x + 1)) = (g' && (c == 1)) by rw [cX_succ, ← hcc', ← Bool.and_assoc, ← hgx.out])
                              clear hcc hte hcc' hgx
                              cases g' with
                              | false =>
                                go_wp2_with fail
                                go_roundw
                                case rel => exact ⟨x + 1, _, false, by go_num, by omega, rfl, Lib.hid (by rw [HG2.out]; rfl), rfl⟩
                                case measure => simp [intOf]; omega
                              | true =>
                                by_cases hc1 : c = 1
                                · subst hc1
                                  go_wp2_with fail
                                  go_roundw
                                  case rel => exact ⟨x + 1, _, true, by go_num, by omega, rfl, Lib.hid (by rw [HG2.out]; rfl), rfl⟩
                                  case measure => simp [intOf]; omega
                                · have hbc : ((c : Int) == 1) = false := by rw [beq_eq_false_iff_ne]; omega
                                  have HG3 := Lib.hid (HG2.out.trans (show (true && (c == 1)) = false by rw [beq_eq_false_iff_ne.2 hc1]; rfl))
                                  go_wp2_with fail
                                  go_roundw
                                  case rel => exact ⟨x + 1, _, false, by go_num, by omega, rfl, Lib.hid HG3.out.symm, rfl⟩
                                  case measure => simp [intOf]; omega
                        · obtain rfl : x = i := by omega
                          have HG2 := Lib.hid (show g' = cB n' rows a (b + 1) by rw [cB_succ, ← hgb.out, ← HN.out]; exact hgx.out)
                          clear hgx
                          go_wp2_with fail
                          go_roundw
                          case rel => exact ⟨b + 1, nq3, g', by go_num, by omega, rfl, HG2, rfl⟩
                          case measure => simp [intOf]; omega
                    · obtain rfl : b = a := by omega
                      have HG2 := Lib.hid (show g = cA n' rows (b + 1) by rw [cA_succ, ← HA.out, Bool.true_and]; exact hgb.out)
                      clear hgb
                      go_wp2_with fail
                      go_roundw
                      case rel => exact ⟨b + 1, nq2, g, by go_num, by omega, rfl, HG2, rfl⟩
                      case measure => simp [intOf]; omega
                · have HRI := Lib.hid (show g = true ↔ oaRight n' rows from by
                    have h1 := hgc.out
                    cases g with
                    | true =>
                      have : a = n' + 1 := by
                        by_cases h2 : a < n' + 1
                        · exact absurd ⟨rfl, h2⟩ hcont
                        · omega
                      subst this
                      exact ⟨fun _ => (cA_all n' rows).1 h1.symm, fun _ => rfl⟩
                    | false => exact ⟨fun h => (by cases h), fun h => absurd h (cA_not ha h1.symm)⟩)
                  have hex : g = false ∨ (g = true ∧ ¬ a < n' + 1) := by
                    cases g with
                    | true => exact .inr ⟨rfl, fun h => hcont ⟨rfl, h⟩⟩
                    | false => exact .inl rfl
                  have HB7 := Lib.hid (below_drewN HB6.out nq)
                  obtain ⟨w7, hw7⟩ : ∃ w7, w7 = w6.drewN nq := ⟨_, rfl⟩
                  rw [← hw7] at HB7 ⊢
                  have HRT := Lib.hid (oaright_any (n' : Int) rows ao cp w7 (HX.out w7 HB7.out) hl)
                  clear hgc hcont hw7
                  rcases hex with rfl | ⟨rfl, hna⟩
                  all_goals
                    go_wp2_with fail
                    refine HRT.out.mono ?_
                    clear HRT
                    rintro e w8 ⟨⟨h, _⟩ | ⟨_, m, hm, h, _⟩ | ⟨_, m, bb, hm, _, rfl, hbb⟩, hb8⟩
                    · exact absurd HQ.out h
                    · obtain rfl : m = n' := by omega
                      exact absurd HF.out h
                    obtain rfl : m = n' := by omega
                    have hb8' := HB7.out.trans (hb8.mono HB7.out.size)
                    have HB8 := Lib.hid hb8'
                    have hbg := (hbb.trans ((oaRight_iff HF.out hn2).symm.trans HRI.out.symm))
                    clear hb8 hm hbb
                    go_wp2_with fail
                    refine (error_is _ _ 0 Num.nil w8 (HG.out.below hb8')).mono ?_
                    rintro e w9 ⟨rfl, hb9⟩
                    rw [eqself]
                    have HB9 := Lib.hid (HB8.out.trans (hb9.mono HB8.out.size))
                    have HR2 := Lib.hid (oarows_any 2 w9)
                    clear hb8' hb9
                    first
                    | obtain rfl : bb = true := by simpa using hbg
                      clear hbg
                      go_wp2_with fail
                      refine HR2.out.mono ?_
                      rintro e w10 ⟨⟨h, _⟩ | ⟨_, m2, a2, c2, hm, rfl, _⟩, hb10⟩
                      · exact absurd (Or.inl rfl) h
                      obtain rfl : m2 = 2 := by omega
                      have HB10 := Lib.hid (HB9.out.trans (hb10.mono HB9.out.size))
                      clear hm hb10
                      go_wp2_with fail
                      go_ret
                      exact ⟨rfl, HB10.out⟩
                    | obtain rfl : bb = false := by simpa using hbg
                      clear hbg
                      go_wp2_with fail
                      refine HR2.out.mono ?_
                      rintro e w10 ⟨⟨h, _⟩ | ⟨_, m2, a2, c2, hm, rfl, _⟩, hb10⟩
                      · exact absurd (Or.inl rfl) h
                      obtain rfl : m2 = 2 := by omega
                      have HB10 := Lib.hid (HB9.out.trans (hb10.mono HB9.out.size))
                      clear hm hb10
                      go_wp2_with fail
                      go_ret
                      exact ⟨rfl, HB10.out⟩
          · go_wp2_with fail
            go_loop [16] (fun ev => ev = .bool false) (fun _ => 0)
            case atStart => rfl
            case round =>
              obtain rfl := hrel
              have HRT := Lib.hid (oaright_any (n' : Int) rows ao cp w6 (HX.out w6 HB6.out) hl)
              go_wp2_with fail
              refine HRT.out.mono ?_
              clear HRT
              rintro e w7 ⟨⟨h, _⟩ | ⟨_, m, hm, _, rfl⟩ | ⟨_, m, _, hm, h, _⟩, hb7⟩
              · exact absurd HQ.out h
              rotate_left
              · obtain rfl : m = n' := by omega
                exact absurd h hform.out
              have hb7' := HB6.out.trans (hb7.mono HB6.out.size)
              have HB7 := Lib.hid hb7'
              clear hb7 hm HB6
              go_wp2_with fail
              refine (error_is _ _ 3 (Num.err 3) w7 (HG.out.below hb7')).mono ?_
              rintro e w8 ⟨rfl, hb8⟩
              rw [eqself]
              have HB8 := Lib.hid (HB7.out.trans (hb8.mono HB7.out.size))
              have HR2 := Lib.hid (oarows_any 2 w8)
              clear hb7' hb8
              go_wp2_with fail
              refine HR2.out.mono ?_
              rintro e w9 ⟨⟨h, _⟩ | ⟨_, m, a2, c2, hm, rfl, _⟩, hb9⟩
              · exact absurd (Or.inl rfl) h
              obtain rfl : m = 2 := by omega
              have HB9 := Lib.hid (HB8.out.trans (hb9.mono HB8.out.size))
              clear hm hb9
              go_wp2_with fail
              go_ret
              exact ⟨rfl, HB9.out⟩
end Go.Proofs.YtmcbplklopejlaaDoor
