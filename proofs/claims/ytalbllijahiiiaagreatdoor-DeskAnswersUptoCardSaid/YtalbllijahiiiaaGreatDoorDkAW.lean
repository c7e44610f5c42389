/- assayersame.Texts: are two lists of texts the same. assayerref1.Cut. DeskKeeps: the plain law. DeskKeeps: the walk. -/
import Derived.Test.YtalbllijahiiiaaGreatDoorDkAV
import Derived.Deep.QuietTactic
import Derived.BigQuiet
section
namespace Go.Proofs.YtalbllijahiiiaaGreatDoor
open Go.RowKit Go.Mine Go.Mine.Desk

theorem take_succ_eqT {xs ys : List Bytes} {k : Nat} (hk : k < xs.length) (hk' : k < ys.length) : xs.take (k + 1) = ys.take (k + 1) ↔ xs.take k = ys.take k ∧ xs.getD k [] = ys.getD k [] := by
  rw [List.take_succ_eq_append_getElem hk, List.take_succ_eq_append_getElem hk']
  have hl : (xs.take k).length = (ys.take k).length := by simp; omega
  constructor
  · intro h
    have := List.append_inj h hl
    simp [hk, hk']
    exact ⟨this.1, by simpa using this.2⟩
  · rintro ⟨h1, h2⟩
    simp [hk, hk'] at h2
    rw [h1, h2]

set_option maxHeartbeats 600000 in
theorem Texts_any (xs ys : List Bytes) (a b : Option Addr) (ca cb : Nat) (w : World) (hx : StrsAt w a xs) (hy : StrsAt w b ys) (hl : xs.length ≤ maxLen) :
    Calls Tryz.prog 5 #[.slice a xs.length ca, .slice b ys.length cb] w fun e w' => e = .returned (.bool (decide (xs = ys))) ∧ ∃ n, w' = w.drewN n := by
  unfold maxLen at hl
  by_cases hne : xs.length = ys.length
  · have HX := Lib.hid hx; clear hx
    have HY := Lib.hid hy; clear hy
    rw [← hne]
    have HNE := Lib.hid hne; clear hne
    go_enter Tryz.func5, Tryz.ntmps5
    go_wp2_with fail
    go_loopw [5] (fun i wr => ∃ k nq : Nat, i = .int .i64 k ∧ k ≤ xs.length ∧ xs.take k = ys.take k ∧ wr = w.drewN nq) (fun i _ => xs.length - (intOf i).toNat)
    case atStart => exact ⟨0, 0, rfl, by omega, by simp, (drewN_zero w).symm⟩
    case round =>
      obtain ⟨k, nq, rfl, hk, ht, rfl⟩ := hrel
      have HT := Lib.hid ht; clear ht
      by_cases hlt : k < xs.length
      · obtain ⟨b1, o1, rfl, hc1⟩ := HX.out k hlt
        obtain ⟨b2, o2, rfl, hc2⟩ := HY.out k (by rw [← HNE.out]; exact hlt)
        have hts := take_succ_eqT (ys := ys) hlt (by rw [← HNE.out]; exact hlt)
        have HTS := Lib.hid hts; clear hts
        obtain ⟨x, hx⟩ : ∃ x, x = xs.getD k [] := ⟨_, rfl⟩
        obtain ⟨y, hy⟩ : ∃ y, y = ys.getD k [] := ⟨_, rfl⟩
        rw [← hx] at hc1 HTS
        rw [← hy] at hc2 HTS
        have HXX := Lib.hid hx; clear hx
        have HYY := Lib.hid hy; clear hy
        by_cases hxy : x = y
        · subst hxy
          have hb : (x != x) = false := by simp
          go_wp2_with fail
          go_quiet (fail)
          go_wp2_with fail
          go_roundw
          case rel => exact ⟨k + 1, _, by go_num, by omega, HTS.out.2 ⟨HT.out, by first | trivial | rfl⟩, rfl⟩
          case measure => simp [intOf]; omega
        · have hb : (x != y) = true := by simpa using hxy
          have hE : decide (xs = ys) = false := by
            rw [decide_eq_false_iff_not]
            intro h
            exact hxy (HTS.out.1 (by rw [h])).2
          have HE := Lib.hid hE; clear hE
          have hde : (!x == y) = true := by simpa using hxy
          go_wp2_with fail
          go_quiet (fail)
          go_wp2_with fail
          go_ret
          exact ⟨by rw [HE.out]; rfl, _, drewN_drewN _ _ _⟩
      · have hE : decide (xs = ys) = true := by
          rw [decide_eq_true_iff]
          have h := HT.out
          rwa [List.take_of_length_le (by omega), List.take_of_length_le (by rw [← HNE.out]; omega)] at h
        have HE := Lib.hid hE; clear hE
        go_wp2_with fail
        go_ret
        exact ⟨by rw [HE.out]; rfl, _, rfl⟩
  · have hE : decide (xs = ys) = false := by
      rw [decide_eq_false_iff_not]
      intro h
      exact hne (by rw [h])
    have HE := Lib.hid hE; clear hE
    have hb : ((xs.length : Int) != (ys.length : Int)) = true := by rw [bne_iff_ne]; omega
    have hb2 : ((xs.length : Int) == (ys.length : Int)) = false := by rw [beq_eq_false_iff_ne]; omega
    have HNE := Lib.hid hne; clear hne
    go_enter Tryz.func5, Tryz.ntmps5
    go_wp2_with fail
    go_ret
    exact ⟨by rw [HE.out]; rfl, 0, (drewN_zero w).symm⟩
end Go.Proofs.YtalbllijahiiiaaGreatDoor
end

section
namespace Go.Proofs.YtalbllijahiiiaaGreatDoor
open Go.RowKit Go.Mine Go.Mine.Desk

structure CutI (c : UInt8) (s : Bytes) (f i : Nat) (done : List Bytes) : Prop where
  fi : f ≤ i
  le : i ≤ s.length
  eq : done ++ cuts c (s.drop f) = cuts c s
  no : c ∉ (s.drop f).take (i - f)
theorem CutI.zero (c : UInt8) (s : Bytes) : CutI c s 0 0 [] := ⟨Nat.le_refl _, Nat.zero_le _, rfl, by simp⟩
theorem CutI.hit {c : UInt8} {s : Bytes} {f i : Nat} {done : List Bytes} (h : CutI c s f i done) (hi : s[i]? = some c) : CutI c s (i + 1) (i + 1) (done ++ [(s.drop f).take (i - f)]) := by
  obtain ⟨hl, hv⟩ := List.getElem?_eq_some_iff.1 hi
  refine ⟨Nat.le_refl _, hl, ?_, by simp⟩
  have e : s.drop f = (s.drop f).take (i - f) ++ c :: s.drop (i + 1) := by
    conv => lhs; rw [← List.take_append_drop (i - f) (s.drop f), List.drop_drop, show f + (i - f) = i by have := h.fi; omega, List.drop_eq_getElem_cons hl, hv]
  have h2 := h.eq
  rw [e, cuts_append, cuts_none c _ h.no] at h2
  rw [← h2]
  simp
theorem CutI.miss {c x : UInt8} {s : Bytes} {f i : Nat} {done : List Bytes} (h : CutI c s f i done) (hi : s[i]? = some x) (hx : x ≠ c) : CutI c s f (i + 1) done := by
  obtain ⟨hl, hv⟩ := List.getElem?_eq_some_iff.1 hi
  have hf := h.fi
  refine ⟨by omega, hl, h.eq, ?_⟩
  rw [show i + 1 - f = (i - f) + 1 by omega, List.take_add_one, List.mem_append]
  rintro (h1 | h1)
  · exact h.no h1
  · rw [List.getElem?_drop, show f + (i - f) = i by omega, hi] at h1
    simp at h1
    exact hx h1.symm
theorem CutI.fin {c : UInt8} {s : Bytes} {f : Nat} {done : List Bytes} (h : CutI c s f s.length done) : done ++ [s.drop f] = cuts c s := by
  have hn := h.no
  rw [List.take_of_length_le (by simp)] at hn
  rw [← h.eq, cuts_none c _ hn]
theorem CutI.few {c : UInt8} {s : Bytes} {f i : Nat} {done : List Bytes} (h : CutI c s f i done) : done.length ≤ s.length := by
  have h1 := congrArg List.length h.eq
  have h2 := cuts_length c s
  have h3 := List.length_pos_iff.2 (cuts_ne c (s.drop f))
  rw [List.length_append] at h1
  omega
theorem from_text (s : Bytes) (f i : Nat) (hf : f ≤ i) (hi : i ≤ s.length) (w : World) : (Instr.slice 9 (str s) (some (.int .i64 (f : Int))) (some (.int .i64 (i : Int))) none).run Tryz.prog w = .ok (str ((s.drop f).take (i - f))) w := by
  rw [run_slice_string (P := Tryz.prog) w 9 ⟨s.toArray⟩ .i64 .i64 (f : Int) (i : Int) (by kernel_rfl) (by omega) (by omega) (by simpa [ByteArray.size] using hi), Go.Lib.extract_eq]
  simp
theorem rest_text (s : Bytes) (k : Nat) (hk : k ≤ s.length) (w : World) : (Instr.slice 9 (str s) (some (.int .i64 (k : Int))) none none).run Tryz.prog w = .ok (str (s.drop k)) w := by
  rw [run_slice_string_l (P := Tryz.prog) w 9 ⟨s.toArray⟩ (by kernel_rfl) .i64 (k : Int) (by omega) (by simp [ByteArray.size]; omega), Go.Lib.extract_eq]
  have e2 : (⟨s.toArray⟩ : ByteArray).size = s.length := by simp [ByteArray.size]
  rw [e2]
  rw [List.take_of_length_le (by simp)]
  simp
set_option maxRecDepth 100000 in
set_option maxHeartbeats 4000000 in
theorem Cut_any (s : Bytes) (c : UInt8) (hs : s.length ≤ 1100000) (w : World) : Calls Tryz.prog 7 #[str s, .int .u8 c.toNat] w fun e w' =>
    (∃ v, e = .returned v ∧ w'.ownsRow w.heap.size 9 1 v (cuts c s).length ((cuts c s).map str)) ∧ Below w.heap.size w w' := by
  obtain ⟨i0, hi0, hz0, hz1, hz2⟩ := info_parts infoStr
  go_enter Tryz.func7, Tryz.ntmps7
  go_wp2_with fail
  go_loopw [5, 6, 7] (fun ov fv iv wr => ∃ (f i : Nat) (done : List Bytes), fv = .int .i64 (f : Int) ∧ iv = .int .i64 (i : Int) ∧ i ≤ s.length ∧ RowKit.Hid (CutI c s f i done ∧ Below w.heap.size w wr ∧ wr.ownsRow w.heap.size 9 1 ov done.length (done.map str))) (fun _ _ iv _ => s.length - (intOf iv).toNat)
  case atStart => exact ⟨0, 0, [], rfl, rfl, Nat.zero_le _, Lib.hid ⟨CutI.zero c s, Below.refl _ _, World.ownsRow_nil _ _ _ _⟩⟩
  case round =>
    obtain ⟨f, i, done, rfl, rfl, hi, HK⟩ := hrel
    have hfi := HK.out.1.fi
    have hfew := HK.out.1.few
    have hsz := HK.out.2.1.size
    rcases Nat.lt_or_ge i s.length with hlt | hge
    · obtain ⟨x, hx⟩ : ∃ x, s[i]? = some x := ⟨s[i], by simp [hlt]⟩
      have hi0' : (0 : Int) ≤ (i : Int) := by omega
      have hi1 : (i : Int) < (s.length : Int) := by omega
      have hw1 : IntKind.i64.wrap ((i : Int) + 1) = ((i + 1 : Nat) : Int) := by rw [IntWalk.i64_in _ (by omega)]; omega
      have hsl := from_text s f i hfi (by omega)
      by_cases hxc : x = c
      · subst hxc
        have hb : ∀ (h : i < (⟨s.toArray⟩ : ByteArray).size), ((((⟨s.toArray⟩ : ByteArray)[i]'h).toNat : Int) == (x.toNat : Int)) = true := fun h => by
          obtain ⟨h1, h2⟩ := List.getElem?_eq_some_iff.1 hx
          have e : (⟨s.toArray⟩ : ByteArray)[i]'h = x := by rw [← h2]; rfl
          rw [e]; simp
        have HO := Lib.hid HK.out.2.2
        have HX := Lib.hid hx
        clear hx
        go_wp2_with (at_builtin; refine wpList_push2 _ rfl _ _ 23 rfl w.heap.size 9 i0 (.string ⟨#[]⟩) 1 16 Tryz.underlying23 hi0 hz0 hz1 hz2 rfl (by decide) _ _ _ rfl (HO.out.alloc _) ⟨wr.heap.size, 0, none⟩ 1 [str ((s.drop f).take (i - f))] rfl rfl (World.news_of_block (cs := #[str ((s.drop f).take (i - f))]) (t := 9) (fr := (0, 0)) (heap_alloc_at _ _ rfl)) (str1 _) (by unfold maxLen; omega) (by omega) (by simp; omega) ?_)
        intro g cap w7 hown hgr hat7
        have HB7 := Lib.hid ((HK.out.2.1.alloc hsz (.cells #[str ((s.drop f).take (i - f))] 9)).grown hgr (by simp; omega) (fun q hq => (HO.out.lt q hq).1))
        have HO7 := Lib.hid hown
        clear hown hgr hat7
        go_wp2_with fail
        go_roundw
        case rel => exact ⟨i + 1, i + 1, _, by go_num, by go_num, by omega, Lib.hid ⟨HK.out.1.hit HX.out, HB7.out, by rw [List.length_append, List.map_append]; exact HO7.out⟩⟩
        case measure => simp [intOf]; omega
      · have hb : ∀ (h : i < (⟨s.toArray⟩ : ByteArray).size), ((((⟨s.toArray⟩ : ByteArray)[i]'h).toNat : Int) == (c.toNat : Int)) = false := fun h => by
          obtain ⟨h1, h2⟩ := List.getElem?_eq_some_iff.1 hx
          have e : (⟨s.toArray⟩ : ByteArray)[i]'h = x := by rw [← h2]; rfl
          rw [e, beq_eq_false_iff_ne]
          intro h3
          exact hxc (UInt8.toNat_inj.1 (by omega))
        have HX := Lib.hid hx
        clear hx
        go_wp2_with fail
        go_roundw
        case rel => exact ⟨f, i + 1, done, rfl, by go_num, by omega, Lib.hid ⟨HK.out.1.miss HX.out hxc, HK.out.2⟩⟩
        case measure => simp [intOf]; omega
    · obtain rfl : i = s.length := by omega
      have hsl := rest_text s f (by omega)
      have HO := Lib.hid HK.out.2.2
      go_wp2_with (at_builtin; refine wpList_push2 _ rfl _ _ 23 rfl w.heap.size 9 i0 (.string ⟨#[]⟩) 1 16 Tryz.underlying23 hi0 hz0 hz1 hz2 rfl (by decide) _ _ _ rfl (HO.out.alloc _) ⟨wr.heap.size, 0, none⟩ 1 [str (s.drop f)] rfl rfl (World.news_of_block (cs := #[str (s.drop f)]) (t := 9) (fr := (0, 0)) (heap_alloc_at _ _ rfl)) (str1 _) (by unfold maxLen; omega) (by omega) (by simp; omega) ?_)
      intro g cap w7 hown hgr hat7
      have HB7 := Lib.hid ((HK.out.2.1.alloc hsz (.cells #[str (s.drop f)] 9)).grown hgr (by simp; omega) (fun q hq => (HO.out.lt q hq).1))
      have HO7 := Lib.hid hown
      clear hown hgr hat7
      go_wp2_with fail
      go_ret
      refine ⟨⟨_, rfl, ?_⟩, HB7.out⟩
      rw [← HK.out.1.fin, List.length_append, List.map_append]
      exact HO7.out
end Go.Proofs.YtalbllijahiiiaaGreatDoor
end

section
namespace Go.Proofs.YtalbllijahiiiaaGreatDoor
open Go.RowKit Go.Mine Go.Mine.Desk

def factS : Bytes := [99, 111, 117, 110, 116, 10, 115, 104, 111, 119, 32, 55]
theorem fact_run : runV factS = [[49, 48], [55]] := by kernel_rfl
theorem StrsAt.of_owns {w : World} {base n cap : Nat} {ao : Option Addr} {l : List Bytes} (h : w.ownsRow base 9 1 (.slice ao n cap) n (l.map str)) : StrsAt w ao l := by
  intro j hj
  have hl := h.1
  simp at hl
  rcases h.2 with ⟨h1, h2⟩ | ⟨g, cap', cur, h1, _⟩
  · omega
  · simp only [Value.slice.injEq] at h1
    obtain ⟨rfl, _, rfl⟩ := h1
    refine ⟨g, 0, rfl, ?_⟩
    have := h.cellAt j (by omega)
    simp [hj] at this ⊢
    exact this
end Go.Proofs.YtalbllijahiiiaaGreatDoor
end

section
namespace Go.Proofs.YtalbllijahiiiaaGreatDoor
open Go.RowKit Go.Mine Go.Mine.Desk

theorem cat_text (a b : Bytes) : (⟨a.toArray⟩ : ByteArray) ++ ⟨b.toArray⟩ = ⟨(a ++ b).toArray⟩ := by
  apply ByteArray.ext
  simp
theorem runV_len (s : Bytes) : (runV s).length ≤ 100 := by
  unfold runV
  split
  · simp
  · rw [answers_len]; omega
theorem head_slice (b o n c k : Nat) (hk : k ≤ c) (w : World) : (Instr.slice 23 (.slice (some ⟨b, o, none⟩) n c) none (some (.int .i64 (k : Int))) none).run Tryz.prog w = .ok (.slice (some ⟨b, o, none⟩) k c) w := by
  have h := run_slice_h (P := Tryz.prog) (w := w) 23 (some ⟨b, o, none⟩) n c (by kernel_rfl) .i64 (k : Int) (by omega) (by omega)
  rw [h]
  have he : Tryz.prog.elem 23 = 9 := by kernel_rfl
  rw [he]
  obtain ⟨i0, hi0, hz0, hz1, hz2⟩ := info_parts infoStr
  simp [sizeOf, typeInfo, hi0, Result.andThen, sliced, Addr.add, go_sem]
theorem tail_slice (b o n c k : Nat) (hk : k ≤ n) (hc : k < c) (w : World) : (Instr.slice 23 (.slice (some ⟨b, o, none⟩) n c) (some (.int .i64 (k : Int))) none none).run Tryz.prog w = .ok (.slice (some ⟨b, o + k, none⟩) (n - k) (c - k)) w := by
  have h := run_slice_l (P := Tryz.prog) (w := w) 23 (some ⟨b, o, none⟩) n c (by kernel_rfl) .i64 (k : Int) (by omega) (by omega)
  rw [h]
  have he : Tryz.prog.elem 23 = 9 := by kernel_rfl
  rw [he]
  obtain ⟨i0, hi0, hz0, hz1, hz2⟩ := info_parts infoStr
  simp [sizeOf, typeInfo, hi0, hz1, Result.andThen, sliced, Addr.add, go_sem, show ¬ c = k by omega]
theorem StrsAt.head {w : World} {b o : Nat} {l r : List Bytes} (h : StrsAt w (some ⟨b, o, none⟩) (l ++ r)) : StrsAt w (some ⟨b, o, none⟩) l := fun j hj => by
  obtain ⟨b', o', e, hc⟩ := h j (by rw [List.length_append]; omega)
  refine ⟨b', o', e, ?_⟩
  rw [hc]
  simp [hj, List.getElem?_append_left]
theorem StrsAt.tail {w : World} {b o : Nat} {l r : List Bytes} (h : StrsAt w (some ⟨b, o, none⟩) (l ++ r)) : StrsAt w (some ⟨b, o + l.length, none⟩) r := fun j hj => by
  obtain ⟨b', o', e, hc⟩ := h (l.length + j) (by rw [List.length_append]; omega)
  cases e
  refine ⟨b, o + l.length, rfl, ?_⟩
  rw [show o + l.length + j = o + (l.length + j) by omega, hc]
  simp [List.getElem?_append_right]
theorem StrsAt.nth {w : World} {b o : Nat} {l r : List Bytes} {x : Bytes} (h : StrsAt w (some ⟨b, o, none⟩) (l ++ x :: r)) : w.cell? ⟨b, o + l.length, none⟩ = some (str x) := by
  obtain ⟨b', o', e, hc⟩ := h l.length (by rw [List.length_append, List.length_cons]; omega)
  cases e
  rw [hc]
  simp
theorem StrsAt.drewN {w : World} {ao : Option Addr} {l : List Bytes} (h : StrsAt w ao l) (n : Nat) : StrsAt (w.drewN n) ao l := h
theorem Texts_same (xs : List Bytes) (a b : Option Addr) (n ca cb : Nat) (hn : n = xs.length) (w : World) (hx : StrsAt w a xs) (hy : StrsAt w b xs) (hl : n ≤ 100) (q : Nat) :
    Calls Tryz.prog 5 #[.slice a n ca, .slice b n cb] (w.drewN q) fun e w' => e = .returned (.bool true) ∧ ∃ n, w' = (w.drewN q).drewN n := by
  subst hn
  have h := Texts_any xs xs a b ca cb (w.drewN q) (hx.drewN q) (hy.drewN q) (by unfold maxLen; omega)
  rw [show decide (xs = xs) = true by simp] at h
  exact h
theorem owns_cap {w : World} {base : Nat} {e : TypeId} {size : Nat} {ao : Option Addr} {n c : Nat} {xs : List Value} (h : w.ownsRow base e size (.slice ao n c) n xs) (hn : 0 < n) : (∃ g, ao = some ⟨g, 0, none⟩) ∧ n ≤ c := by
  rcases h.2 with ⟨_, h0⟩ | ⟨g, cap, cur, hv, _, _, hcap, _⟩
  · omega
  · cases hv
    exact ⟨⟨g, rfl⟩, hcap⟩
theorem Cut_nl (s : Bytes) (hs : s.length ≤ 1100000) (w : World) : Calls Tryz.prog 7 #[str s, .int .u8 10] w fun e w' =>
    (∃ v, e = .returned v ∧ w'.ownsRow w.heap.size 9 1 v (cuts 10 s).length ((cuts 10 s).map str)) ∧ Below w.heap.size w w' := by
  have h := Cut_any s 10 hs w
  rw [show (((10 : UInt8).toNat : Nat) : Int) = 10 from rfl] at h
  exact h
end Go.Proofs.YtalbllijahiiiaaGreatDoor
end
