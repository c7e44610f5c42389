/- path.Nth. No conditions. -/
import Derived.Test.YtppbaiilhaagdaaPath4
import Derived.Test.YtppbaiilhaagdaaPathN
namespace Go.Proofs.Ytppbaiilhaagdaa
open Go.RowKit Go.Mine Go.Mine.Path Go.Mine.Flow Go.Deep

def ints (w : List Nat) : List Int := w.map fun k : Nat => (k : Int)
theorem ints_len (w : List Nat) : (ints w).length = w.length := by simp [ints]
theorem ints_app (u v : List Nat) : ints (u ++ v) = ints u ++ ints v := by simp [ints]
def lenV : Value → Nat
  | .slice _ m _ => m
  | _ => 0
theorem own_room {w : World} {base : Nat} {e : TypeId} {size : Nat} {ro : Option Addr} {n rc : Nat} {xs : List Value} (h : w.ownsRow base e size (.slice ro n rc) n xs) : n ≤ rc := by
  rcases h.2 with ⟨h, h0⟩ | ⟨_, _, _, h, _, _, h1, _⟩
  · omega
  · simp only [Value.slice.injEq] at h
    rw [h.2.2]
    exact h1
/-- What Nth answers. -/
def NPost (n : Int) (es : List (Int × Int)) (k : Int) (W : World) (e : Ending) (w' : World) : Prop :=
  Below W.heap.size W w' ∧ ((pathOk n es ∧ ∃ (w : List Nat) (ao : Option Addr) (cap : Nat), 0 ≤ k ∧ (paths (natE es) n.toNat 0)[k.toNat]? = some w ∧ e = .returned (.tuple #[.slice ao w.length cap, .nilIface]) ∧ IntsAt .i64 w' ao (ints w) ∧ w.length ≤ cap) ∨
    (pathOk n es ∧ ¬ (0 ≤ k ∧ k < (np (natE es) n.toNat 0 : Nat)) ∧ e = .returned (.tuple #[.slice none 0 0, .iface 48 (.int .i64 1)])) ∨
    (¬ pathOk n es ∧ ∃ c : Int, e = .returned (.tuple #[.slice none 0 0, .iface 48 (.int .i64 c)]) ∧ (ok n es → c = 3) ∧ (¬ ok n es → c = efault n es)))
set_option maxHeartbeats 2000000 in
set_option maxRecDepth 100000 in
theorem nth_any (n : Int) (es : List (Int × Int)) (k : Int) (lo : Option Addr) (lc : Nat) (W : World) (hx : PairsAt W lo es) (hl : es.length ≤ maxLen) (hc : lo ≠ none → es.length ≤ lc) :
    Calls Try.prog 7 #[.int .i64 n, .slice lo es.length lc, .int .i64 k] W (NPost n es k W) := by
  obtain ⟨i0, hi0, hz0, hz1, hz2⟩ := info_parts infoI3
  have HK := Lib.hid (checked_any n es lo lc W hx hl hc)
  clear hx
  go_enter Try.func7, Try.ntmps7
  go_wp2_with fail
  refine HK.out.mono ?_
  clear HK
  rintro e w1 ⟨hb, ⟨hok, gs, rfl, hgr⟩ | ⟨hno, c, rfl, hc1, hc2⟩⟩
  rotate_left
  · have HN := Lib.hid (And.intro hno (And.intro hc1 hc2))
    have HB := Lib.hid hb
    clear hno hc1 hc2 hb
    go_wp2_with fail
    go_ret2
    exact ⟨HB.out, .inr (.inr ⟨HN.out.1, c, rfl, HN.out.2.1, HN.out.2.2⟩)⟩
  have HP := Lib.hid hok
  have HB1 := Lib.hid hb
  have HG := Lib.hid (show ∀ w, Below w1.heap.size w1 w → GraphAt (natE es) n.toNat gs w from fun w h => hgr.below h)
  obtain ⟨N, rfl⟩ := Int.eq_ofNat_of_zero_le (show 0 ≤ n by have := hok.1.1; omega)
  have hN0 : 0 < N := by have := hok.1.1; omega
  have hN12 : N ≤ 12 := by have := hok.1.2.1; omega
  have HES := Lib.hid (nat_ok hok.1)
  have hgood : ∀ i, Go.Mine.Path.Good (natE es) i := good_of_acy (nat_ok hok.1) hok.2.2
  have HGO := Lib.hid hgood
  rw [show ((N : Int)).toNat = N from rfl] at hgr HG HES
  obtain ⟨bn, bp, h1, h2, h3, h4⟩ := hgr
  have h5 := h4 0 hN0
  obtain ⟨z, hz⟩ : ∃ z, z = np (natE es) N 0 := ⟨_, rfl⟩
  rw [← hz] at h5
  have hzl : z ≤ 1792160394037 := by rw [hz]; exact np_le _ _ _ hN12
  have HZ := Lib.hid hz
  clear hok hb h1 h3 h4 hz hgood
  by_cases hk0 : k < 0
  · go_wp2_with fail
    go_ret2
    exact ⟨HB1.out, .inr (.inl ⟨HP.out, fun h => by omega, rfl⟩)⟩
  obtain ⟨K, rfl⟩ := Int.eq_ofNat_of_zero_le (show 0 ≤ k by omega)
  by_cases hkz : z ≤ K
  · have hb1 : decide ((z : Int) ≤ (K : Int)) = true := by simp; omega
    go_wp2_with fail
    go_ret2
    exact ⟨HB1.out, .inr (.inl ⟨HP.out, fun h => by rw [show ((N : Int)).toNat = N from rfl, ← HZ.out] at h; omega, rfl⟩)⟩
  have hb1 : decide ((z : Int) ≤ (K : Int)) = false := by simp; omega
  have hlt : K < (paths (natE es) N 0).length := by
    have : z = (paths (natE es) N 0).length := HZ.out
    omega
  obtain ⟨P, hP⟩ : ∃ P, (paths (natE es) N 0)[K]? = some P := ⟨_, List.getElem?_eq_getElem hlt⟩
  have HON := Lib.hid (On.start hN0 (HGO.out 0) hP)
  have hb0 : decide ((K : Int) < 0) = false := by simp
  clear hlt hP
  obtain ⟨w2, hw2⟩ : ∃ w2, w2 = w1.alloc (.cells #[.int .i64 0] 3) := ⟨_, rfl⟩
  have HO2 := Lib.hid (show w2.ownsRow w1.heap.size 3 1 (.slice (some ⟨w1.heap.size, 0, none⟩) 1 1) 1 ((ints [0]).map (Value.int .i64)) by rw [hw2]; exact owns_laid (cs := #[.int .i64 0]) (heap_alloc_at _ _ rfl) (Nat.le_refl _) rfl (by unfold maxLen; omega))
  have HB2 := Lib.hid (show Below w1.heap.size w1 w2 by rw [hw2]; exact below_al (Below.refl _ _) _)
  have hw2' := hw2.symm
  clear hw2
  go_wp2_with fail
  clear hw2' h2 h5 hb0 hb1
  go_loopw [2, 10, 11] (fun kv ov iv wr => ∃ (i q : Nat) (pre p : List Nat), iv = .int .i64 (i : Int) ∧ kv = .int .i64 (q : Int) ∧ q ≤ 1792160394037 ∧ RowKit.Hid (On (natE es) N K i q pre p) ∧ RowKit.Hid (wr.ownsRow w1.heap.size 3 1 ov (pre ++ [i]).length ((ints (pre ++ [i])).map (Value.int .i64))) ∧ RowKit.Hid (Below w1.heap.size w1 wr)) (fun _ ov _ _ => N - lenV ov)
  case atStart => exact ⟨0, K, [], P, rfl, rfl, by omega, HON, HO2, HB2⟩
  clear HON HO2 HB2
  case round =>
    obtain ⟨i, q, pre, p, rfl, rfl, hqb, hon, how, hbw⟩ := hrel
    have HON := Lib.hid hon.out
    have HB := Lib.hid hbw.out
    have hin := hon.out.lt
    have hpl := hon.out.short HES.out (HGO.out 0) hN0
    obtain ⟨oo, oc, hve⟩ := owns_shape how.out
    subst hve
    have HOW := Lib.hid how.out
    have hgw := HG.out wr hbw.out
    obtain ⟨bn, bp, h1, h2, h3, h4⟩ := hgw
    obtain ⟨ro, rc, h5, h6⟩ := h3 i hin
    have HR := Lib.hid h6
    have HNP := Lib.hid h4
    have hbs := hbw.out.size
    obtain ⟨sl, hsl⟩ : ∃ sl, sl = (sc (natE es) N i).length := ⟨_, rfl⟩
    rw [← hsl] at h5
    have HSL := Lib.hid hsl
    have HSL2 := Lib.hid (show sl = (succs (natE es) N i).length by rw [hsl]; simp [sc])
    have hslb : sl ≤ N := by rw [hsl]; exact sc_len _ _ _
    have hpl2 : (pre ++ [i]).length = pre.length + 1 := by simp
    rw [hpl2] at HOW
    rw [hpl2]
    clear h3 h4 h6 hon how hbw hsl hpl2
    rcases nth_first HES.out HON.out.good hin HON.out.here with ⟨he, hq0, hp⟩ | ⟨q', hor, hfl⟩
    · have HFI := Lib.hid (show (paths (natE es) N 0)[K]? = some (pre ++ [i]) from by
        have h := HON.out
        rw [hq0] at h
        exact h.last hp)
      have hb : ((i : Int) == (N : Int) - 1) = true := by rw [beq_iff_eq]; omega
      have hb2 : ((q : Int) == 0) = true := by rw [beq_iff_eq]; omega
      clear he hp
      go_wp2_with fail
      go_ret2
      exact ⟨HB1.out.trans (HB.out.mono HB1.out.size), .inl ⟨HP.out, pre ++ [i], oo, oc, by omega, HFI.out, by rw [List.length_append]; rfl, IntsAt.of_owns HOW.out, by have := own_room HOW.out; rw [List.length_append]; exact this⟩⟩
    · have HFL := Lib.hid hfl
      have HQ : i + 1 = N ∧ q = q' + 1 ∨ i + 1 ≠ N ∧ q = q' := hor
      clear hfl hor
      rcases HQ with ⟨he, hqe⟩ | ⟨he, hqe⟩
      · have hb : ((i : Int) == (N : Int) - 1) = true := by rw [beq_iff_eq]; omega
        have hb2 : ((q : Int) == 0) = false := by rw [beq_eq_false_iff_ne]; omega
        obtain rfl : q = q' + 1 := hqe
        clear he
        go_wp2_with fail
        go_loop [2, 54] (fun kv tv => ∃ t r : Nat, tv = .int .i64 (t : Int) ∧ t ≤ sl ∧ kv = .int .i64 (r : Int) ∧ r ≤ 1792160394037 ∧ RowKit.Hid ((fl (natE es) N i ((succs (natE es) N i).drop t))[r]? = some p)) (fun _ tv => sl - (intOf tv).toNat)
        case atStart => exact ⟨0, q', rfl, by omega, by first | rfl | go_num, by omega, Lib.hid (by simpa using HFL.out)⟩
        case round =>
          obtain ⟨t, r, rfl, ht, rfl, hrb, hf⟩ := hrel
          by_cases hts : t < sl
          · have hts2 : t < (succs (natE es) N i).length := by rw [← HSL2.out]; exact hts
            obtain ⟨b3, o3, hro, hce⟩ := HR.out t (by rw [← HSL.out]; exact hts)
            subst hro
            obtain ⟨j, hj⟩ : ∃ j, j = (succs (natE es) N i).getD t 0 := ⟨_, rfl⟩
            have hjv : (sc (natE es) N i).getD t 0 = (j : Int) := by rw [hj]; simp [sc, hts2]
            rw [hjv] at hce
            have hjm : j ∈ succs (natE es) N i := by rw [hj]; simp [hts2]
            have hjn := (mem_succs.1 hjm).1
            have g3 := HNP.out j hjn
            have hff := hf.out
            rw [drop_cons hts2, ← hj] at hff
            obtain ⟨z2, hz2⟩ : ∃ z2, z2 = np (natE es) N j := ⟨_, rfl⟩
            have hnl := np_le (natE es) N j hN12
            rw [← hz2] at g3 hnl
            have hj0 : (j : Int) < (N : Int) := by omega
            rcases nth_step hff with ⟨hr, p', hp', hk'⟩ | ⟨hr, hk'⟩
            · rw [← hz2] at hr
              have hd : decide ((r : Int) < (z2 : Int)) = true := by simp; omega
              have hd2 : decide (r < z2) = true := by simp; omega
              have HNX := Lib.hid (HON.out.next hp' hjm hk')
              have HAP := Lib.hid (show (ints (pre ++ [i])).map (Value.int .i64) ++ [.int .i64 (j : Int)] = (ints (pre ++ [i] ++ [j])).map (Value.int .i64) by simp [ints])
              clear hj hjv hjm hff hp' hk' hz2 hf hr
              go_wp2_with (at_builtin; refine wpList_push _ rfl _ _ 27 rfl w1.heap.size 3 i0 (.int .i64 0) 1 8 Try.underlying27 hi0 hz0 hz1 hz2 rfl (by decide) _ _ _ rfl (HOW.out.alloc _) ⟨wr.heap.size, 0, none⟩ 1 [.int .i64 (j : Int)] rfl rfl (cell_one_new _ _ _) (one1 _ _) (by unfold maxLen; omega) (by omega) (by simp; omega) ?_)
              intro g7 cap w7 ho7 hg7
              have HB7 := Lib.hid ((below_al HB.out (.cells #[.int .i64 (j : Int)] 3)).grown hg7 (by simp; omega) (fun k hk => (HOW.out.lt k hk).1))
              rw [HAP.out] at ho7
              have HO7 := Lib.hid ho7
              have hpl3 := HNX.out.short HES.out (HGO.out 0) hN0
              simp at hpl3
              clear ho7 hg7
              go_wp2_with fail
              go_roundw
              case rel => exact ⟨j, r, pre ++ [i], p', rfl, rfl, hrb, HNX, Lib.hid (by rw [List.length_append, List.length_append]; exact HO7.out), HB7⟩
              case measure => simp [lenV]; omega
            · rw [← hz2] at hr hk'
              have hd : decide ((r : Int) < (z2 : Int)) = false := by simp; omega
              have hd2 : decide (r < z2) = false := by simp; omega
              have HK2 := Lib.hid hk'
              clear hj hjv hjm hff hk' hz2 hf
              go_wp2_with fail
              exact ⟨⟨t + 1, r - z2, by go_num, by omega, by rw [Int.ofNat_sub hr], by omega, HK2⟩, by simp [intOf]; omega⟩
          · exfalso
            have hf2 := hf.out
            rw [List.drop_of_length_le (by rw [← HSL2.out]; omega), fl_nil] at hf2
            simp at hf2
      · have hb : ((i : Int) == (N : Int) - 1) = false := by rw [beq_eq_false_iff_ne]; omega
        obtain rfl : q = q' := hqe
        clear he
        go_wp2_with fail
        go_loop [2, 54] (fun kv tv => ∃ t r : Nat, tv = .int .i64 (t : Int) ∧ t ≤ sl ∧ kv = .int .i64 (r : Int) ∧ r ≤ 1792160394037 ∧ RowKit.Hid ((fl (natE es) N i ((succs (natE es) N i).drop t))[r]? = some p)) (fun _ tv => sl - (intOf tv).toNat)
        case atStart => exact ⟨0, q, rfl, by omega, by first | rfl | go_num, by omega, Lib.hid (by simpa using HFL.out)⟩
        case round =>
          obtain ⟨t, r, rfl, ht, rfl, hrb, hf⟩ := hrel
          by_cases hts : t < sl
          · have hts2 : t < (succs (natE es) N i).length := by rw [← HSL2.out]; exact hts
            obtain ⟨b3, o3, hro, hce⟩ := HR.out t (by rw [← HSL.out]; exact hts)
            subst hro
            obtain ⟨j, hj⟩ : ∃ j, j = (succs (natE es) N i).getD t 0 := ⟨_, rfl⟩
            have hjv : (sc (natE es) N i).getD t 0 = (j : Int) := by rw [hj]; simp [sc, hts2]
            rw [hjv] at hce
            have hjm : j ∈ succs (natE es) N i := by rw [hj]; simp [hts2]
            have hjn := (mem_succs.1 hjm).1
            have g3 := HNP.out j hjn
            have hff := hf.out
            rw [drop_cons hts2, ← hj] at hff
            obtain ⟨z2, hz2⟩ : ∃ z2, z2 = np (natE es) N j := ⟨_, rfl⟩
            have hnl := np_le (natE es) N j hN12
            rw [← hz2] at g3 hnl
            have hj0 : (j : Int) < (N : Int) := by omega
            rcases nth_step hff with ⟨hr, p', hp', hk'⟩ | ⟨hr, hk'⟩
            · rw [← hz2] at hr
              have hd : decide ((r : Int) < (z2 : Int)) = true := by simp; omega
              have hd2 : decide (r < z2) = true := by simp; omega
              have HNX := Lib.hid (HON.out.next hp' hjm hk')
              have HAP := Lib.hid (show (ints (pre ++ [i])).map (Value.int .i64) ++ [.int .i64 (j : Int)] = (ints (pre ++ [i] ++ [j])).map (Value.int .i64) by simp [ints])
              clear hj hjv hjm hff hp' hk' hz2 hf hr
              go_wp2_with (at_builtin; refine wpList_push _ rfl _ _ 27 rfl w1.heap.size 3 i0 (.int .i64 0) 1 8 Try.underlying27 hi0 hz0 hz1 hz2 rfl (by decide) _ _ _ rfl (HOW.out.alloc _) ⟨wr.heap.size, 0, none⟩ 1 [.int .i64 (j : Int)] rfl rfl (cell_one_new _ _ _) (one1 _ _) (by unfold maxLen; omega) (by omega) (by simp; omega) ?_)
              intro g7 cap w7 ho7 hg7
              have HB7 := Lib.hid ((below_al HB.out (.cells #[.int .i64 (j : Int)] 3)).grown hg7 (by simp; omega) (fun k hk => (HOW.out.lt k hk).1))
              rw [HAP.out] at ho7
              have HO7 := Lib.hid ho7
              have hpl3 := HNX.out.short HES.out (HGO.out 0) hN0
              simp at hpl3
              clear ho7 hg7
              go_wp2_with fail
              go_roundw
              case rel => exact ⟨j, r, pre ++ [i], p', rfl, rfl, hrb, HNX, Lib.hid (by rw [List.length_append, List.length_append]; exact HO7.out), HB7⟩
              case measure => simp [lenV]; omega
            · rw [← hz2] at hr hk'
              have hd : decide ((r : Int) < (z2 : Int)) = false := by simp; omega
              have hd2 : decide (r < z2) = false := by simp; omega
              have HK2 := Lib.hid hk'
              clear hj hjv hjm hff hk' hz2 hf
              go_wp2_with fail
              exact ⟨⟨t + 1, r - z2, by go_num, by omega, by rw [Int.ofNat_sub hr], by omega, HK2⟩, by simp [intOf]; omega⟩
          · exfalso
            have hf2 := hf.out
            rw [List.drop_of_length_le (by rw [← HSL2.out]; omega), fl_nil] at hf2
            simp at hf2
end Go.Proofs.Ytppbaiilhaagdaa
