/- assayerref2.PathsFrom. No conditions. -/
import Derived.Test.YtppbaiilhaagdaaDoorPath7
import Derived.Test.YtppbaiilhaagdaaDoorPathN
import Derived.Test.YtppbaiilhaagdaaDoorRowsN
import Derived.Test.YtppbaiilhaagdaaDoorHasG
namespace Go.Proofs.YtppbaiilhaagdaaDoor
open Go.RowKit Go.Mine Go.Mine.Path Go.Mine.Flow Go.Deep

theorem infoR : (Tryd.prog.info? 23).map (fun i => (i.zero, i.size, i.bytes)) = some (some (.slice none 0 0), 1, 24) := by kernel_rfl
/-- The next nodes below k. -/
def sk (es : List (Nat × Nat)) (i k : Nat) : List Nat := (List.range k).filter fun j => decide ((i, j) ∈ es)
theorem sk_succ (es : List (Nat × Nat)) (i k : Nat) : sk es i (k + 1) = sk es i k ++ if (i, k) ∈ es then [k] else [] := by
  unfold sk
  rw [List.range_succ, List.filter_append]
  by_cases h : (i, k) ∈ es
  · rw [if_pos h]; simp [h]
  · rw [if_neg h]; simp [h]
theorem fl_app (es : List (Nat × Nat)) (n i : Nat) (ks ls : List Nat) : fl es n i (ks ++ ls) = fl es n i ks ++ fl es n i ls := List.flatMap_append
def base (n i : Nat) : List (List Nat) := if i + 1 = n then [[i]] else []
theorem sk_pre (es : List (Nat × Nat)) (i : Nat) : ∀ d k, ∃ r, sk es i (k + d) = sk es i k ++ r
  | 0, k => ⟨[], by simp⟩
  | d + 1, k => by
    obtain ⟨r, hr⟩ := sk_pre es i d k
    exact ⟨_, by rw [← Nat.add_assoc, sk_succ, hr, List.append_assoc]⟩
theorem fl_sk_le {es : List (Nat × Nat)} {n i k : Nat} (h : paths es n i = base n i ++ fl es n i (succs es n i)) (hn : n ≤ 12) (hk : k ≤ n) : (base n i).length + (fl es n i (sk es i k)).length ≤ 1792160394037 := by
  obtain ⟨r, hr⟩ := sk_pre es i (n - k) k
  rw [show k + (n - k) = n by omega] at hr
  have e : succs es n i = sk es i k ++ r := hr
  have h1 := np_le es n i hn
  unfold np at h1
  rw [h, e, fl_app, List.length_append, List.length_append] at h1
  omega
set_option maxHeartbeats 2000000 in
set_option maxRecDepth 100000 in
theorem pathsFrom_any (N : Nat) (es : List (Int × Int)) (lo : Option Addr) (lc : Nat) (hok : ok N es) (i : Nat) (hg : Go.Mine.Path.Good (natE es) i) :
    i < N → ∀ W : World, PairsAt W lo es → Calls Tryd.prog 8 #[.int .i64 N, .slice lo es.length lc, .int .i64 i] W fun e w' => ∃ v, e = .returned v ∧ RN w' W.heap.size 23 v ((paths (natE es) N i).map ints) ∧ Below W.heap.size W w' := by
  have hes : ∀ e ∈ natE es, e.1 < N ∧ e.2 < N := nat_ok hok
  have hN12 : N ≤ 12 := by have := hok.2.1; omega
  have hel : es.length ≤ 30 := hok.2.2.1
  have HES := Lib.hid hes
  have HOK := Lib.hid hok
  clear hes hok
  induction hg with
  | intro i hacc ih =>
    intro hi W hx
    have hgood : Go.Mine.Path.Good (natE es) i := Acc.intro i hacc
    have HPE := Lib.hid (paths_eq HES.out hgood hi)
    have IH := Lib.hid ih
    have HGI := Lib.hid hgood
    have HX := Lib.hid (show ∀ w, Below W.heap.size W w → PairsAt w lo es from fun w hb => hx.below (Nat.le_refl _) hb)
    have HHE := Lib.hid (show ∀ (k : Nat) (w : World), Below W.heap.size W w → Calls Tryd.prog 14 #[.slice lo es.length lc, .int .i64 (i : Int), .int .i64 (k : Int)] w fun e w' => e = .returned (.bool (decide ((i, k) ∈ natE es))) ∧ w = w' from fun k w hb => by
      have h := hasEdge_any es i k lo lc w (HX.out w hb) (by unfold maxLen; omega)
      have e : decide (((i : Int), (k : Int)) ∈ es) = decide ((i, k) ∈ natE es) := by
        rw [Bool.eq_iff_iff, decide_eq_true_eq, decide_eq_true_eq]
        exact (natE_mem (fun e he => ⟨(HOK.out.2.2.2 e he).1, (HOK.out.2.2.2 e he).2.2.1⟩)).symm
      rw [e] at h
      exact h)
    obtain ⟨i0, hi0, hz0, hz1, hz2⟩ := info_parts infoI3
    obtain ⟨i1, hi1, hy0, hy1, hy2⟩ := info_parts infoR
    obtain ⟨tb, htb⟩ : ∃ tb, ((i : Int) == (N : Int) - 1) = tb := ⟨_, rfl⟩
    have HTB := Lib.hid htb
    clear hx ih hacc hgood
    go_enter Tryd.func8, Tryd.ntmps8
    go_upto_if 14 with fail
    go_cut [7] from 15 to 19 (fun ov wx => ∃ (ao : Option Addr) (m cap : Nat), ov = .slice ao m cap ∧ RowKit.Hid (RN wx W.heap.size 23 (.slice ao m cap) ((base N i).map ints)) ∧ RowKit.Hid (Below W.heap.size W wx))
    case first =>
      clear htb
      cases tb with
      | true =>
        have he : i + 1 = N := by have := HTB.out; rw [beq_iff_eq] at this; omega
        have HBA := Lib.hid (show (base N i).map ints = [] ++ [[(i : Int)]] by unfold base; rw [if_pos he]; rfl)
        clear he
        go_wp2_with (at_builtin; refine wpList_push2 _ rfl (.tmp 15) (.tmp 18) 31 rfl W.heap.size 23 i1 (.slice none 0 0) 1 24 Tryd.underlying31 hi1 hy0 hy1 hy2 rfl (by decide) _ _ _ rfl (World.ownsRow_nil _ _ _ _) ⟨W.heap.size + 1, 0, none⟩ 1 [.slice (some ⟨W.heap.size, 0, none⟩) 1 1] rfl rfl (by have := cell_one_new (W.alloc (.cells #[.int .i64 (i : Int)] 3)) (.slice (some ⟨W.heap.size, 0, none⟩) 1 1) 23; simpa using this) (by intro u hu; simp at hu; subst hu; rfl) (by unfold maxLen; omega) (by omega) (by simp; omega) ?_)
        intro g cap w1 hs1 hg1 hat
        have hrow : IntsAt .i64 (W.alloc (.cells #[.int .i64 (i : Int)] 3)) (some ⟨W.heap.size, 0, none⟩) [(i : Int)] := fun j hj => by
          obtain rfl : j = 0 := by simp at hj; omega
          exact ⟨_, _, rfl, at_one _ _ _ _ rfl⟩
        have HR := Lib.hid (RN.push (w := W.alloc (.cells #[.int .i64 (i : Int)] 3)) (v := .slice none 0 0) (B := W.heap.size) (T := 23) (svals := []) (rows := []) (row := [(i : Int)]) (ro := some ⟨W.heap.size, 0, none⟩) (rc := 1) (n := 1) (fun i hi => by simp at hi) (World.ownsRow_nil _ _ _ _) hrow (fun g o s e => by cases e; exact ⟨by simp [Value.ownBlock], Nat.le_refl _, by simp⟩) hg1 (hat.imp_right fun h => by simp at h ⊢; omega) rfl hs1)
        have HB1 := Lib.hid (show Below W.heap.size W w1 from (below_al (below_al (Below.refl _ _) _) _).grown hg1 (by simp; omega) (fun k hk => by cases hk))
        clear hs1 hg1 hat hrow
        go_wp2_with fail
        go_meet
        exact ⟨_, _, _, rfl, by rw [HBA.out]; exact HR, HB1⟩
      | false =>
        have he : ¬ i + 1 = N := by have := HTB.out; rw [beq_eq_false_iff_ne] at this; omega
        have HBA := Lib.hid (show (base N i).map ints = [] by unfold base; rw [if_neg he]; rfl)
        clear he
        go_wp2_with fail
        go_meet
        exact ⟨none, 0, 0, rfl, Lib.hid (by rw [HBA.out]; exact RN.nil _ _ _), Lib.hid (Below.refl _ _)⟩
    case rest =>
      obtain ⟨ao0, m0, cap0, rfl, hrn, hb⟩ := hcut
      clear htb HTB
      have HRN := Lib.hid hrn.out
      have HB := Lib.hid hb.out
      clear hrn hb
      go_wp2_with fail
      go_loopw [7, 8] (fun ov kv wr => ∃ (k : Nat) (ao : Option Addr) (m cap : Nat), kv = .int .i64 (k : Int) ∧ ov = .slice ao m cap ∧ k ≤ N ∧ RowKit.Hid (RN wr W.heap.size 23 (.slice ao m cap) ((base N i ++ fl (natE es) N i (sk (natE es) i k)).map ints)) ∧ RowKit.Hid (Below W.heap.size W wr)) (fun _ kv _ => N - (intOf kv).toNat)
      case atStart => exact ⟨0, ao0, m0, cap0, rfl, rfl, by omega, Lib.hid (by have := HRN.out; simpa [sk, fl] using this), HB⟩
      clear HRN HB
      case round =>
        obtain ⟨k, ao, m, cap, rfl, rfl, hk, hrn, hb⟩ := hrel
        have HRN := Lib.hid hrn.out
        have HB := Lib.hid hb.out
        clear hrn hb
        by_cases hkN : k < N
        · have HE := Lib.hid (HHE.out k wr HB.out)
          have HSK := Lib.hid (sk_succ (natE es) i k)
          by_cases hik : (i, k) ∈ natE es
          rotate_left
          · rw [decide_eq_false hik] at HE
            rw [if_neg hik, List.append_nil] at HSK
            clear hik
            go_wp2_with fail
            refine HE.out.mono ?_
            clear HE
            rintro e w1 ⟨rfl, rfl⟩
            go_wp2_with fail
            go_roundw
            case rel => exact ⟨k + 1, ao, m, cap, by go_num, rfl, by omega, by rw [HSK.out]; exact HRN, HB⟩
            case measure => simp [intOf]; omega
          · rw [decide_eq_true hik] at HE
            rw [if_pos hik] at HSK
            have HREC := Lib.hid (IH.out k hik hkN wr (HX.out wr HB.out))
            have HGD := Lib.hid (HGI.out.next hik)
            have HNK := Lib.hid (np_le (natE es) N k hN12)
            have HFB := Lib.hid (fl_sk_le (k := k + 1) (show paths (natE es) N i = base N i ++ fl (natE es) N i (succs (natE es) N i) from HPE.out) hN12 (by omega))
            rw [HSK.out, fl_app, List.length_append] at HFB
            have HFK := Lib.hid (show fl (natE es) N i [k] = (paths (natE es) N k).map (i :: ·) by rw [fl_cons, fl_nil, List.append_nil])
            obtain ⟨bl, hbl⟩ : ∃ bl, bl = (base N i).length := ⟨_, rfl⟩
            rw [← hbl] at HFB
            have HBL := Lib.hid hbl
            clear hbl
            clear hik
            go_wp2_with fail
            refine HE.out.mono ?_
            clear HE
            rintro e w1 ⟨rfl, rfl⟩
            go_wp2_with fail
            refine HREC.out.mono ?_
            clear HREC
            rintro e w2 ⟨mv, rfl, hmr, hb2⟩
            obtain ⟨mo, mc, rfl⟩ := hmr.shape
            have HMR := Lib.hid hmr
            have HB2 := Lib.hid hb2
            have HO2 := Lib.hid (HRN.out.below hb2)
            obtain ⟨P, hP⟩ : ∃ P, P = fl (natE es) N i (sk (natE es) i k) := ⟨_, rfl⟩
            rw [← hP] at HO2 HFB
            have HP := Lib.hid hP
            obtain ⟨Q, hQ⟩ : ∃ Q, Q = paths (natE es) N k := ⟨_, rfl⟩
            rw [← hQ] at HMR HFK ⊢
            have HQ := Lib.hid hQ
            have hql : Q.length ≤ 1792160394037 := by rw [hQ]; exact HNK.out
            have hpl : bl + P.length + Q.length ≤ 1792160394037 := by have h := HFB.out; rw [HFK.out, List.length_map] at h; omega
            have hovl : RowKit.Hid (∀ v, RN wr W.heap.size 23 v ((base N i ++ fl (natE es) N i (sk (natE es) i k)).map ints) → ∀ g, v.ownBlock = some g → g < wr.heap.size) := Lib.hid fun v h g hg => (h.lt g hg).2
            have hml : (Q.map ints).length = Q.length := by simp
            rw [hml] at HMR ⊢
            clear hmr hb2 hP hQ hml
            obtain ⟨wq, hwq⟩ : ∃ wq, wq = wr := ⟨_, rfl⟩
            subst hwq
            go_wp2_with fail
            go_loopw [7, 10] (fun ov jv wr => ∃ (j : Nat) (ao : Option Addr) (m cap : Nat), jv = .int .i64 (j : Int) ∧ ov = .slice ao m cap ∧ j ≤ Q.length ∧ RowKit.Hid (RN wr W.heap.size 23 (.slice ao m cap) ((base N i ++ P ++ (Q.take j).map (i :: ·)).map ints)) ∧ RowKit.Hid (Below W.heap.size W wr) ∧ RowKit.Hid (w2.heap.size ≤ wr.heap.size ∧ ∀ b, wq.heap.size ≤ b → b < w2.heap.size → wr.heap[b]? = w2.heap[b]?) ∧ RowKit.Hid (∀ g, (Value.slice ao m cap).ownBlock = some g → g < wq.heap.size ∨ w2.heap.size ≤ g)) (fun _ jv _ => Q.length - (intOf jv).toNat)
            case atStart => exact ⟨0, ao, m, cap, rfl, rfl, by omega, Lib.hid (by have := HO2.out; simpa using this), Lib.hid (HB.out.trans (HB2.out.mono HB.out.size)), Lib.hid ⟨Nat.le_refl _, fun _ _ _ => rfl⟩, Lib.hid (fun g hg => .inl (HRN.out.lt g hg).2)⟩
            clear HO2
            case round =>
              obtain ⟨j, ao, m, cap, rfl, rfl, hj, hrn, hb, hkp, hob⟩ := hrel
              have HRJ := Lib.hid hrn.out
              have HBJ := Lib.hid hb.out
              have HKP := Lib.hid hkp.out
              have HOB := Lib.hid hob.out
              have hws := hkp.out.1
              clear hrn hb hkp hob
              by_cases hjq : j < Q.length
              · have hjq2 : j < (Q.map ints).length := by simpa using hjq
                obtain ⟨g, ro, rc, hmo, hce, hrow, hbk⟩ := HMR.out.cell hjq2
                subst hmo
                have hgb := HMR.out.lt g rfl
                obtain ⟨r, hr⟩ : ∃ r, r = Q.getD j [] := ⟨_, rfl⟩
                have hrq : (Q.map ints).getD j [] = ints r := by rw [hr]; simp [List.getD_eq_getElem?_getD, hjq]
                rw [hrq] at hce hrow
                have hrp : IsPath (natE es) N k r := by
                  rw [hr]
                  have : Q.getD j [] ∈ Q := by simp [List.getD_eq_getElem?_getD, hjq]
                  rw [HQ.out] at this
                  rw [HQ.out]
                  exact paths_isPath this
                obtain ⟨rr, hrr⟩ := hrp.start
                have hrl : (ints r).length = rr.length + 1 := by rw [hrr]; simp [ints]
                have hrow2 : IntsAt .i64 wr ro (ints r) := hrow.block fun g o s e => HKP.out.2 g (hbk g o s e).1 (hbk g o s e).2
                obtain ⟨rb, rof, rfl, _⟩ := hrow2 0 (by omega)
                have hce2 : wr.cell? ⟨g, j, none⟩ = some (.slice (some ⟨rb, rof, none⟩) (ints r).length rc) := (World.cell?_of_block (w := w2) (HKP.out.2 g hgb.1 hgb.2)).trans hce
                have hgl : g < wr.heap.size := by omega
                have HTK := Lib.hid (show (base N i ++ P ++ (Q.take (j + 1)).map (i :: ·)).map ints = (base N i ++ P ++ (Q.take j).map (i :: ·)).map ints ++ [(i : Int) :: ints r] by
                  have e : Q.take (j + 1) = Q.take j ++ [r] := by rw [List.take_succ_eq_append_getElem hjq, hr]; simp [List.getD_eq_getElem?_getD, hjq]
                  rw [e]
                  simp only [List.map_append, List.map_cons, List.map_nil, List.append_assoc]
                  rfl)
                have HRW := Lib.hid hrow2
                obtain ⟨rl, hrle⟩ : ∃ rl, rl = (ints r).length := ⟨_, rfl⟩
                rw [← hrle] at hce2 hrl
                have HRL := Lib.hid hrle
                have hrb : rl ≤ 12 := by
                  have h1 := hrp.walk
                  rw [hrr] at h1
                  have h2 := h1.short HES.out HGD.out hkN
                  rw [hrl]
                  simp at h2
                  omega
                have hrl0 : 0 < rl := by omega
                clear hce hrow hrow2 hbk hr hrq hrp hrr hrle hjq2 hrl
                have ho1 : (wr.alloc (.cells #[.int .i64 (i : Int)] 3)).ownsRow wr.heap.size 3 1 (.slice (some ⟨wr.heap.size, 0, none⟩) 1 1) 1 [.int .i64 (i : Int)] := owns_laid (cs := #[.int .i64 (i : Int)]) (heap_alloc_at _ _ rfl) (Nat.le_refl _) rfl (by unfold maxLen; omega)
                have hn2 : IntsAt .i64 (wr.alloc (.cells #[.int .i64 (i : Int)] 3)) (some ⟨rb, rof, none⟩) (ints r) := HRW.out.below (Nat.le_refl _) ((Below.refl _ _).alloc (Nat.le_refl _) _)
                have hn3 := hn2.cells
                have hrl2 : ((ints r).map (Value.int .i64)).length = rl * 1 := by rw [List.length_map, HRL.out, Nat.mul_one]
                go_wp2_with (at_builtin; refine wpList_extend2 _ rfl (.tmp 41) (.tmp 45) 23 rfl wr.heap.size 3 i0 (.int .i64 0) 1 8 Tryd.underlying23 hi0 hz0 hz1 hz2 rfl (by decide) (.slice (some ⟨wr.heap.size, 0, none⟩) 1 1) 1 [.int .i64 (i : Int)] (by rfl) ho1 ⟨rb, rof, none⟩ rl rc ((ints r).map (Value.int .i64)) (by rfl) hrl2 hn3 (ints_oneCell .i64 _) (by omega) (by unfold maxLen; omega) (by omega) (by simp) ?_)
                intro g6 cap6 w6 ho6 hg6 hat6
                have hb6 : Below wr.heap.size wr w6 := (below_al (Below.refl _ _) _).grown hg6 (by simp) (fun k hk => by simp [Value.ownBlock] at hk; omega)
                have hg6b : wr.heap.size ≤ g6 ∧ g6 < w6.heap.size := ho6.lt g6 rfl
                have hs6 := hb6.size
                have hrow6 : IntsAt .i64 w6 (some ⟨g6, 0, none⟩) ((i : Int) :: ints r) := IntsAt.of_owns (by
                  rw [show ((i : Int) :: ints r).map (Value.int .i64) = [.int .i64 (i : Int)] ++ (ints r).map (Value.int .i64) from rfl]
                  exact ho6)
                obtain ⟨svals, hsv, hvals⟩ := HRJ.out.below hb6
                have hlen : ((base N i ++ P ++ (Q.take j).map (i :: ·)).map ints).length = bl + P.length + j := by simp [HBL.out]; omega
                have hml : m = bl + P.length + j := by
                  obtain ⟨a2, c2, e2⟩ := HRJ.out.shape
                  rw [hlen] at e2
                  cases e2
                  rfl
                subst hml
                have hB6 := HBJ.out.trans (hb6.mono HBJ.out.size)
                have hszW := HBJ.out.size
                rw [hlen] at hsv
                go_wp2_with (at_builtin; refine wpList_push2 _ rfl (.tmp 39) (.tmp 47) 31 rfl W.heap.size 23 i1 (.slice none 0 0) 1 24 Tryd.underlying31 hi1 hy0 hy1 hy2 rfl (by decide) _ _ _ rfl (hsv.alloc _) ⟨w6.heap.size, 0, none⟩ 1 [.slice (some ⟨g6, 0, none⟩) (1 + rl) cap6] rfl rfl (cell_one_new _ _ _) (by intro u hu; simp at hu; subst hu; rfl) (by unfold maxLen; omega) (by omega) (by simp; omega) ?_)
                intro g7 cap7 w7 hs7 hg7 hat7
                have hrl3 : ((i : Int) :: ints r).length = 1 + rl := by rw [List.length_cons, ← HRL.out]; omega
                have HR7 := Lib.hid (RN.push (n := bl + P.length + j + 1) (cap := cap7) (rc := cap6) hvals (by rw [hlen]; exact hsv) hrow6 (fun g o s e => by
                  cases e
                  refine ⟨fun e2 => ?_, by omega, hg6b.2⟩
                  have := (HRJ.out.lt g6 e2).2
                  omega) hg7 (hat7.imp_right fun h => by (try simp at h); omega) (by rw [hlen]) (by rw [hrl3]; exact hs7))
                rw [← HTK.out] at HR7
                have HB7 := Lib.hid ((hB6.alloc (by omega) (.cells #[.slice (some ⟨g6, 0, none⟩) (1 + rl) cap6] 23)).grown hg7 (by simp; omega) (fun k hk => (hsv.lt k hk).1))
                have hs7' := hg7.size
                simp at hs7'
                have HK7 := Lib.hid (show w2.heap.size ≤ w7.heap.size ∧ ∀ b, wq.heap.size ≤ b → b < w2.heap.size → w7.heap[b]? = w2.heap[b]? from ⟨by omega, fun b hb1 hb2 => by
                  rw [hg7.block b (by simp; omega) (fun e => by have := HOB.out b e.symm; omega), Below.heap_alloc _ _ _ (by omega), hb6.block b (by omega)]
                  exact HKP.out.2 b hb1 hb2⟩)
                have HO7 := Lib.hid (show ∀ g, (Value.slice (some ⟨g7, 0, none⟩) (bl + P.length + j + 1) cap7).ownBlock = some g → g < wq.heap.size ∨ w2.heap.size ≤ g from fun g hg => by
                  simp only [Value.ownBlock, Option.some.injEq] at hg
                  subst hg
                  rcases hat7 with h | h
                  · exact HOB.out g7 h
                  · (try simp at h); right; omega)
                clear ho1 hn2 hn3 ho6 hg6 hat6 hb6 hrow6 hvals hsv hs7 hg7 hat7 hB6
                go_wp2_with fail
                go_roundw
                case rel => exact ⟨j + 1, _, _, _, by go_num, rfl, by omega, HR7, HB7, HK7, HO7⟩
                case measure => simp [intOf]; omega
              · obtain rfl : j = Q.length := by omega
                have HRE := Lib.hid (show base N i ++ fl (natE es) N i (sk (natE es) i (k + 1)) = base N i ++ P ++ (Q.take Q.length).map (i :: ·) by
                  rw [HSK.out, fl_app, ← HP.out, HFK.out, List.take_length, List.append_assoc])
                go_wp2_with fail
                go_roundw
                case rel => exact ⟨k + 1, ao, m, cap, by go_num, rfl, by omega, by rw [HRE.out]; exact HRJ, HBJ⟩
                case measure => simp [intOf]; omega
        · obtain rfl : k = N := by omega
          have hrr := HRN.out
          have e : base k i ++ fl (natE es) k i (sk (natE es) i k) = paths (natE es) k i := by rw [HPE.out]; rfl
          rw [e] at hrr
          have HF := Lib.hid hrr
          clear hrr
          go_wp2_with fail
          go_ret
          exact ⟨_, rfl, HF.out, HB.out⟩
end Go.Proofs.YtppbaiilhaagdaaDoor
