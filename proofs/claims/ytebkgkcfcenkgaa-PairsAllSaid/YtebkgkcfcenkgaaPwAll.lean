/- PairsAll's walk: nothing is missing; without any single row something is; as many rows as the two largest levels together, times, at least. No conditions but what the reading tells. -/
import Derived.Test.YtebkgkcfcenkgaaPwMore
import Derived.Deep.Cut
import Derived.Deep.CutRange
namespace Go.Proofs.Ytebkgkcfcenkgaa
open Go.RowKit Go.Mine Go.Mine.Pw

def Some1 (v : Value) : Prop := ∃ ao n c, v = .slice ao n c ∧ 0 < n ∧ n ≤ 3600
set_option maxHeartbeats 2000000 in
set_option maxRecDepth 100000 in
theorem pairsAll_walk (W : World) (L : List Int) (lo : Option Addr) (lc : Nat) (hx : IntsAt .i64 W lo L) (hl : L.length ≤ maxLen) :
    Calls Try.prog 3 #[.slice lo L.length lc] W fun e w' => e = .returned (.bool true) ∧ Below W.heap.size W w' := by
  obtain ⟨i0, hi0, hz0, hz1, hz2⟩ := info_parts infoSS
  have HR := Lib.hid (Rows_any L lo lc W hx hl)
  have HX := Lib.hid (fun (w : World) (h : Below W.heap.size W w) => hx.below (Nat.le_refl _) h)
  have HL := Lib.hid hl
  unfold maxLen at hl
  clear hx
  go_enter Try.func3, Try.ntmps3
  go_wp2_with fail
  go_fit HR.out
  clear HR
  rintro e w1 ⟨hp, hb1⟩
  have HB1 := Lib.hid hb1
  obtain ⟨wf, hwf⟩ : ∃ wf, wf = w1.alloc (.cells #[.int .i64 2, .int .i64 2] 3) := ⟨_, rfl⟩
  have hbf : Below W.heap.size W wf := by rw [hwf]; exact hb1.alloc hb1.size _
  have hbf1 : Below w1.heap.size w1 wf := by rw [hwf]; exact (Below.refl _ _).alloc (Nat.le_refl _) _
  have hnb : wf.heap[w1.heap.size]? = some (.cells #[.int .i64 2, .int .i64 2] 3 (0, 0)) := by rw [hwf]; exact heap_alloc_new _ _
  have HFA := Lib.hid (fact_any wf w1.heap.size (by rw [cell_of_row _ _ 0 _ _ _ hnb]; rfl) (by rw [cell_of_row _ _ 1 _ _ _ hnb]; rfl))
  have HBF := Lib.hid hbf
  have HBF1 := Lib.hid hbf1
  clear hb1 hbf hbf1 hnb
  rcases hp with ⟨hn, rfl⟩ | ⟨hok, rows, ao, cap, rfl, hra, hle, hnil, hcap, hrl⟩
  · clear hn
    go_wp2_with fail
    rw [← hwf]
    clear hwf
    go_fit HFA.out
    clear HFA
    rintro e w2 ⟨⟨af, cf, rfl⟩, hb2⟩
    have HB2 := Lib.hid (HBF.out.trans (hb2.mono HBF.out.size))
    clear hb2
    go_wp2_with fail
    go_ret
    exact ⟨rfl, HB2.out⟩
  have HOK := Lib.hid hok
  have HLE := Lib.hid hle
  have HRA := Lib.hid hra
  have hll := hok.1
  clear hok hle hra
  go_wp2_with fail
  rw [← hwf]
  clear hwf
  go_fit HFA.out
  clear HFA
  rintro e w2 ⟨⟨af, cf, rfl⟩, hb2⟩
  have HB2 := Lib.hid (HBF.out.trans (hb2.mono HBF.out.size))
  have HB12 := Lib.hid (HBF1.out.trans (hb2.mono HBF1.out.size))
  have hr2 := HRA.out.below (Nat.le_refl _) HB12.out
  have HR2 := Lib.hid hr2
  have HM2 := Lib.hid (Missing_any L rows lo ao lc cap w2 (HX.out w2 HB2.out) HL.out hr2 (by unfold maxLen; omega))
  clear hb2 hr2 HRA HBF HBF1 HB12
  go_wp2_with fail
  go_fit HM2.out
  clear HM2
  rintro e w3 ⟨hp, hb3⟩
  rcases hp with ⟨hn, _⟩ | ⟨_, hn, _⟩ | ⟨_, _, ao3, cap3, rfl, _⟩
  · exact absurd HOK.out hn
  · exact absurd HLE.out.ok hn
  have HB3 := Lib.hid (HB2.out.trans (hb3.mono HB2.out.size))
  have HR3 := Lib.hid (HR2.out.below (Nat.le_refl _) hb3)
  have hm0 : (missP L rows).length = 0 := by rw [HLE.out.all]; rfl
  rw [hm0]
  clear hb3 HR2 hm0
  go_wp2_with fail
  go_loopw [9] (fun iv wr => ∃ i : Nat, iv = .int .i64 i ∧ i ≤ rows.length ∧ RowKit.Hid (Below w3.heap.size w3 wr)) (fun iv _ => rows.length - (intOf iv).toNat)
  case atStart => exact ⟨0, rfl, by omega, Lib.hid (Below.refl _ _)⟩
  case round =>
    obtain ⟨i, rfl, hi, hb⟩ := hrel
    have HBi := Lib.hid hb.out
    by_cases hil : i < rows.length
    · obtain ⟨g, og, ro, rc, hao, _⟩ := HR3.out i hil
      subst hao
      have hri := HR3.out.below (Nat.le_refl _) hb.out
      obtain ⟨vs, hvs, hvc⟩ := hri.vals
      have hvl := hvs.len
      have HVC := Lib.hid (show ∀ j u, vs[j]? = some u → wr.cell? ⟨g, og + j, none⟩ = some u from fun j u hu => by
        have := hvc _ rfl j u hu
        rwa [WideShapes.add_plain] at this)
      obtain ⟨hi', hhi⟩ : ∃ hi', hi' = i + 1 := ⟨_, rfl⟩
      have hji : (i : Int) + 1 = (hi' : Int) := by omega
      have hwr : IntKind.i64.wrap (hi' : Int) = hi' := by rw [IntKind.wrap_i64]; omega
      have hhl : hi' ≤ rows.length := by omega
      have hhc : hi' ≤ cap := by omega
      have hjc : i ≤ cap := by omega
      have her : rows.take i ++ rows.drop hi' = rows.eraseIdx i := by rw [List.eraseIdx_eq_take_drop_succ, hhi]
      have hlen := List.length_eraseIdx_of_lt hil
      have HCUT1 := Lib.hid (hvs.cut i).1
      have HCUT2 := Lib.hid (hvs.cut hi').2
      have HER := Lib.hid her
      have hbW := HB3.out.trans (hb.out.mono HB3.out.size)
      have HCALL := Lib.hid (show ∀ (w8 : World) (g8 c8 m : Nat), Below wr.heap.size wr w8 → RowsAt w8 (some ⟨g8, 0, none⟩) (rows.eraseIdx i) → m = rows.length - 1 → Calls Try.prog 6 #[.slice lo L.length lc, .slice (some ⟨g8, 0, none⟩) m c8] w8 (fun e w' => (∃ v, e = .returned (.tuple #[v, .nilIface]) ∧ Some1 v) ∧ Below w8.heap.size w8 w') from fun w8 g8 c8 m hb8 hr8 hm => by
        subst hm
        have h := Missing_any L (rows.eraseIdx i) lo (some ⟨g8, 0, none⟩) lc c8 w8 (HX.out w8 (hbW.trans (hb8.mono hbW.size))) HL.out hr8 (by rw [hlen]; unfold maxLen; omega)
        rw [hlen] at h
        refine h.mono ?_
        rintro e w' ⟨hp, hb9⟩
        rcases hp with ⟨hn, _⟩ | ⟨_, hn, _⟩ | ⟨_, _, ao3, cap3, rfl, _⟩
        · exact absurd HOK.out hn
        · exact absurd (fun r hr => HLE.out.ok r (mem_eraseIdx_sub hr)) hn
        · refine ⟨⟨_, rfl, ao3, _, cap3, rfl, ?_, missP_len HOK.out _⟩, hb9⟩
          have := HLE.out.need i (Nat.zero_le _) hil
          exact List.length_pos_iff.2 this)
      clear hri hvs hvc her hlen hbW hb
      have HT1 := Lib.hid (show ∀ ad, some (⟨g, og, none⟩ : Addr) = some ad → ∀ j u, (vs.take i)[j]? = some u → wr.cell? (ad.add j) = some u from fun ad ha j u hu => by
        cases ha
        rw [WideShapes.add_plain]
        refine HVC.out j u ?_
        rw [List.getElem?_take] at hu
        split at hu
        · exact hu
        · cases hu)
      have HROW := Lib.hid (show ∀ (w8 : World) (g2 n cap2 : Nat), Below wr.heap.size wr w8 → w8.ownsRow wr.heap.size 22 1 (.slice (some ⟨g2, 0, none⟩) n cap2) n (vs.take i ++ vs.drop hi') → RowsAt w8 (some ⟨g2, 0, none⟩) (rows.eraseIdx i) from fun w8 g2 n cap2 hb8 ho8 => by
        have h := (HCUT1.out.append HCUT2.out).keep hb8
        rw [HER.out] at h
        exact RowsAt.of_owns ho8 h)
      go_upto_region 13 with fail
      go_cut [10, 11] from 57 to 71 (fun v e wx => e = .nilIface ∧ Some1 v ∧ RowKit.Hid (Below w3.heap.size w3 wx))
      case first =>
        by_cases hcap2 : cap = hi'
        · obtain rfl : hi' = rows.length := by omega
          subst hcap2
          have HT2 := Lib.hid (show ∀ ad, some (⟨g, og, none⟩ : Addr) = some ad → ∀ j u, ([] : List Value)[j]? = some u → wr.cell? (ad.add j) = some u from fun ad ha j u hu => by simp at hu)
          have hdn : vs.drop rows.length = [] := List.drop_eq_nil_of_le (by omega)
          rw [hdn] at HROW
          clear hdn hhi
          go_wp2_with fail
          go_region_law (first
            | ((refine step_append_any _ rfl (.tmp 59) (.tmp 62) 23 rfl wr.heap.size 22 i0 (.slice none 0 0) 1 24 Try.underlying23 hi0 hz0 hz1 hz2 rfl (by decide) _ 0 _ [] rfl ?_ (some ⟨g, og, none⟩) i rows.length (vs.take i) rfl (by rw [List.length_take, Nat.mul_one]; omega) (fun h => by cases h) ?_ HCUT1.out.one1 ?_ ?_ ?_ _ rfl ?_)
               · exact owns_empty (Nat.le_refl _) (heap_drew_at (heap_alloc_at _ _ rfl))
               · exact (show ValsAt wr (some ⟨g, og, none⟩) (vs.take i) from HT1.out).below (Nat.le_refl _) ((Below.refl _ _).alloc (Nat.le_refl _) _).drew
               · unfold maxLen; omega
               · omega
               · simp
               intro g1 cap1 w7 hown7 hgrow7 hat7 hlt7
               simp only [Nat.zero_add, List.nil_append] at hown7 ⊢
               have hb7 : Below wr.heap.size wr w7 := Below.grown ((Below.refl _ _).alloc (Nat.le_refl _) _).drew hgrow7 (by simp) (by simp))
            | ((refine step_append_any _ rfl (.tmp 63) (.tmp 67) 23 rfl wr.heap.size 22 i0 (.slice none 0 0) 1 24 Try.underlying23 hi0 hz0 hz1 hz2 rfl (by decide) _ i _ (vs.take i) rfl hown7 (some ⟨g, og, none⟩) 0 0 [] rfl (by simp) (fun h => by cases h) ?_ (by simp) ?_ ?_ ?_ _ rfl ?_)
               · exact (show ValsAt wr (some ⟨g, og, none⟩) [] from HT2.out).below (Nat.le_refl _) hb7
               · unfold maxLen; omega
               · omega
               · exact hb7.size
               intro g2 cap2 w8 hown8 hgrow8 hat8 hlt8
               have hb8 : Below wr.heap.size wr w8 := Below.grown hb7 hgrow8 hb7.size (by have := (hown7.lt g1 rfl).1; simp; omega)
               have hr8 : RowsAt w8 (some ⟨g2, 0, none⟩) (rows.eraseIdx i) := HROW.out w8 g2 _ cap2 hb8 hown8)
            | (go_simp; go_at_call 6; refine (HCALL.out w8 g2 cap2 _ hb8 hr8 (by omega)).mono ?_; rintro e w9 ⟨⟨v9, rfl, hv9⟩, hb9⟩; have hb9' := HBi.out.trans ((hb8.trans (hb9.mono hb8.size)).mono HBi.out.size)))
          all_goals
            go_wp2_with fail
            go_meet
            exact ⟨rfl, hv9, Lib.hid hb9'⟩
        · have HT2 := Lib.hid (show ∀ ad, some (⟨g, og + hi', none⟩ : Addr) = some ad → ∀ j u, (vs.drop hi')[j]? = some u → wr.cell? (ad.add j) = some u from fun ad ha j u hu => by
            cases ha
            rw [WideShapes.add_plain, Nat.add_assoc]
            refine HVC.out _ u ?_
            rw [List.getElem?_drop] at hu
            exact hu)
          have hdl : (vs.drop hi').length = rows.length - hi' := by rw [List.length_drop]; omega
          clear hhi
          go_wp2_with fail
          go_region_law (first
            | ((refine step_append_any _ rfl (.tmp 59) (.tmp 62) 23 rfl wr.heap.size 22 i0 (.slice none 0 0) 1 24 Try.underlying23 hi0 hz0 hz1 hz2 rfl (by decide) _ 0 _ [] rfl ?_ (some ⟨g, og, none⟩) i cap (vs.take i) rfl (by rw [List.length_take, Nat.mul_one]; omega) (fun h => by cases h) ?_ HCUT1.out.one1 ?_ ?_ ?_ _ rfl ?_)
               · exact owns_empty (Nat.le_refl _) (heap_drew_at (heap_alloc_at _ _ rfl))
               · exact (show ValsAt wr (some ⟨g, og, none⟩) (vs.take i) from HT1.out).below (Nat.le_refl _) ((Below.refl _ _).alloc (Nat.le_refl _) _).drew
               · unfold maxLen; omega
               · omega
               · simp
               intro g1 cap1 w7 hown7 hgrow7 hat7 hlt7
               simp only [Nat.zero_add, List.nil_append] at hown7 ⊢
               have hb7 : Below wr.heap.size wr w7 := Below.grown ((Below.refl _ _).alloc (Nat.le_refl _) _).drew hgrow7 (by simp) (by simp))
            | ((refine step_append_any _ rfl (.tmp 63) (.tmp 67) 23 rfl wr.heap.size 22 i0 (.slice none 0 0) 1 24 Try.underlying23 hi0 hz0 hz1 hz2 rfl (by decide) _ i _ (vs.take i) rfl hown7 (some ⟨g, og + hi', none⟩) (rows.length - hi') (cap - hi') (vs.drop hi') rfl (by rw [hdl, Nat.mul_one]) (fun h => by cases h) ?_ HCUT2.out.one1 ?_ ?_ ?_ _ rfl ?_)
               · exact (show ValsAt wr (some ⟨g, og + hi', none⟩) (vs.drop hi') from HT2.out).below (Nat.le_refl _) hb7
               · unfold maxLen; omega
               · omega
               · exact hb7.size
               intro g2 cap2 w8 hown8 hgrow8 hat8 hlt8
               have hb8 : Below wr.heap.size wr w8 := Below.grown hb7 hgrow8 hb7.size (by have := (hown7.lt g1 rfl).1; simp; omega)
               have hr8 : RowsAt w8 (some ⟨g2, 0, none⟩) (rows.eraseIdx i) := HROW.out w8 g2 _ cap2 hb8 hown8)
            | (go_simp; go_at_call 6; refine (HCALL.out w8 g2 cap2 _ hb8 hr8 (by omega)).mono ?_; rintro e w9 ⟨⟨v9, rfl, hv9⟩, hb9⟩; have hb9' := HBi.out.trans ((hb8.trans (hb9.mono hb8.size)).mono HBi.out.size)))
          all_goals
            go_wp2_with fail
            go_meet
            exact ⟨rfl, hv9, Lib.hid hb9'⟩
      case rest =>
        obtain ⟨rfl, ⟨a5, n5, c5, rfl, hn5, hn56⟩, hbx⟩ := hcut
        have hd5 : ((n5 : Int) == 0) = false := beq_eq_false_iff_ne.2 (by omega)
        clear hji hwr hhi hhl hhc
        go_wp2_with fail
        go_roundw
        case rel => exact ⟨i + 1, by go_num, by omega, hbx⟩
        case measure => simp [intOf]; omega
    · obtain rfl : i = rows.length := by omega
      have HB4 := Lib.hid (HB3.out.trans (hb.out.mono HB3.out.size))
      clear hb
      obtain ⟨w4, hw4⟩ : ∃ w4, w4 = wr := ⟨_, rfl⟩
      subst hw4
      obtain ⟨n, hn⟩ : ∃ n, n = L.length := ⟨_, rfl⟩
      obtain ⟨R, hRe⟩ : ∃ R, R = rows.length := ⟨_, rfl⟩
      have HQ := Lib.hid HLE.out.le
      have HGE := Lib.hid (fun (a b : Nat) (h1 : a < b) (h2 : b < L.length) => HLE.out.ge h1 h2)
      rw [← hRe] at HQ HGE hrl ⊢
      rw [← hn] at HQ HGE hll hl ⊢
      have HN := Lib.hid hn
      clear HLE HR3 hcap hnil HBi hn hRe hi
      go_wp2_with fail
      go_loopw [12, 13, 14] (fun mv sv av wr => ∃ m s a : Nat, mv = .int .i64 m ∧ sv = .int .i64 s ∧ av = .int .i64 a ∧ a ≤ n ∧ m ≤ R ∧ RowKit.Hid (s = (qA L a).length) ∧ s ≤ 3600 ∧ RowKit.Hid (Below W.heap.size W wr)) (fun _ _ av _ => n - (intOf av).toNat)
      case atStart => exact ⟨0, 0, 0, rfl, rfl, rfl, by omega, by omega, Lib.hid rfl, by omega, HB4⟩
      case round =>
        obtain ⟨m, s, a, rfl, rfl, rfl, ha, hm, hs, hs36, hb⟩ := hrel
        have HS := Lib.hid hs.out
        have HB := Lib.hid hb.out
        clear hs hb
        by_cases han : a < n
        · have hlv := HOK.out.lv (show a < L.length by rw [← HN.out]; exact han)
          obtain ⟨la, hla⟩ : ∃ la, la = lv L a := ⟨_, rfl⟩
          rw [← hla] at hlv
          have HLA := Lib.hid hla
          have hla5 := hlv.2.2
          have HLV := Lib.hid hlv.1
          clear hla hlv
          go_wp2_with fail
          go_loopw [12, 13, 15] (fun mv sv bv wr => ∃ m s b : Nat, mv = .int .i64 m ∧ sv = .int .i64 s ∧ bv = .int .i64 b ∧ b ≤ a ∧ m ≤ R ∧ RowKit.Hid (s = (qA L a).length + (qB L a b).length) ∧ s ≤ 3600 ∧ RowKit.Hid (Below W.heap.size W wr)) (fun _ _ bv _ => a - (intOf bv).toNat)
          case atStart => exact ⟨m, s, 0, rfl, rfl, rfl, by omega, hm, Lib.hid HS.out, hs36, HB⟩
          clear HS HB hm hs36
          case round =>
            obtain ⟨m, s, b, rfl, rfl, rfl, hba, hm, hs, hs36, hb⟩ := hrel
            have HS := Lib.hid hs.out
            have HB := Lib.hid hb.out
            clear hs hb
            by_cases hbl : b < a
            · have hlv := HOK.out.lv (show b < L.length by rw [← HN.out]; omega)
              obtain ⟨lb, hlb⟩ : ∃ lb, lb = lv L b := ⟨_, rfl⟩
              rw [← hlb] at hlv
              have HLB := Lib.hid hlb
              have hlb5 := hlv.2.2
              obtain ⟨ba, oa, rfl, hca⟩ := HX.out wr HB.out a (by rw [← HN.out]; exact han)
              obtain ⟨_, _, he, hcb⟩ := HX.out wr HB.out b (by rw [← HN.out]; omega)
              cases he
              rw [HLV.out] at hca
              rw [hlv.1] at hcb
              have hge := HGE.out b a hbl han
              have hqs := qB_succ L a b
              rw [← HLA.out, ← hlb] at hge hqs
              have hpr : la * lb ≤ 25 := Nat.mul_le_mul hla5 hlb5
              have hpi : (la : Int) * (lb : Int) ≤ 25 := by exact_mod_cast hpr
              have hpi0 : (0 : Int) ≤ (la : Int) * (lb : Int) := by exact_mod_cast Nat.zero_le _
              have HGE2 := Lib.hid (show max m (la * lb) ≤ R from Nat.max_le.2 ⟨hm, hge⟩)
              have HS2 := Lib.hid (show s + la * lb = (qA L a).length + (qB L a (b + 1)).length by rw [hqs, HS.out]; omega)
              have hbn : (b : Int) < (n : Int) := by omega
              clear hlb hlv hge hqs
              go_wp2_with fail
              go_quiet (fail)
              go_wp2_with fail
              all_goals go_quiet (fail)
              all_goals go_wp2_with fail
              all_goals go_roundw
              all_goals first
                | exact ⟨m, s + la * lb, b + 1, rfl, by rw [Int.natCast_add, Int.natCast_mul], by go_num, by omega, hm, HS2, by
                    have h1 := HS2.out
                    have h2 := qA_len HOK.out (a + 1) (by omega)
                    have h3 := qB_len HOK.out a (b + 1)
                    have h4 := qA_len HOK.out a (by omega)
                    omega, Lib.hid (below_drewN HB.out _)⟩
                | exact ⟨la * lb, s + la * lb, b + 1, by rw [Int.natCast_mul], by rw [Int.natCast_add, Int.natCast_mul], by go_num, by omega, Nat.le_trans (Nat.le_max_right _ _) HGE2.out, HS2, by
                    have h1 := HS2.out
                    have h2 := qA_len HOK.out (a + 1) (by omega)
                    have h3 := qB_len HOK.out a (b + 1)
                    have h4 := qA_len HOK.out a (by omega)
                    omega, Lib.hid (below_drewN HB.out _)⟩
                | (simp [intOf]; omega)
            · obtain rfl : b = a := by omega
              have HS2 := Lib.hid (show s = (qA L (b + 1)).length by rw [qA_succ]; exact HS.out)
              go_wp2_with fail
              go_roundw
              case rel => exact ⟨m, s, b + 1, rfl, rfl, by go_num, by omega, hm, HS2, hs36, HB⟩
              case measure => simp [intOf]; omega
        · obtain rfl : a = n := by omega
          have HF := Lib.hid (show R ≤ s by rw [HS.out]; exact HQ.out)
          have hd1 : decide ((m : Int) ≤ (R : Int)) = true := by simp; omega
          have hRs := HF.out
          have hd2 : decide ((R : Int) ≤ (s : Int)) = true := by simp; omega
          go_wp2_with fail
          go_ret
          exact ⟨rfl, HB.out⟩
end Go.Proofs.Ytebkgkcfcenkgaa
