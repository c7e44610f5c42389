import Derived.Test.YtkdfikjfbbnekaaB
namespace Go.Proofs.Ytkdfikjfbbnekaa
open Go.RowKit Go.Mine Go.Mine.Inter

theorem pascal_bad (xs : List Int) (ao : Option Addr) (cap : Nat) (W : World) (hx : IntsAt .i64 W ao xs) (hl : xs.length ≤ maxLen) (hok : ¬ ok xs) :
    Calls Try.prog 3 #[.slice ao xs.length cap] W fun e w' => e = .returned (.bool true) ∧ Below W.heap.size W w' := by
  have hx1 := hx.below (Nat.le_refl _) (((Below.refl W.heap.size W).alloc (Nat.le_refl _) (.cells #[.int .i64 1, .int .i64 2] 3)))
  have HX := Lib.hid hx1; clear hx hx1
  go_enter Try.func3, Try.ntmps3
  go_wp2_with fail
  refine (turned_any _).mono ?_
  rintro e w1 ⟨rfl, rfl⟩
  go_wp2_with fail
  refine (Count_any xs ao cap _ HX.out hl).mono ?_
  rintro e w1 ⟨hp, rfl⟩
  rcases hp with ⟨h, _⟩ | ⟨_, c, rfl⟩
  · exact absurd h hok
  · go_wp2_with fail
    go_ret
    exact ⟨rfl, (Below.refl _ _).alloc (Nat.le_refl _) _⟩

theorem toNat_map (l : List Nat) : (l.map fun n : Nat => (n : Int)).map Int.toNat = l := by
  rw [List.map_map]
  exact List.map_id'' (fun _ => rfl) _
theorem ok_set {l : List Nat} (h : ok (l.map fun n : Nat => (n : Int))) {j : Nat} (hj : j < l.length) (hp : 0 < l.getD j 0) :
    ok ((l.map fun n : Nat => (n : Int)).set j ((l.getD j 0 : Nat) - 1)) ∧ ((l.map fun n : Nat => (n : Int)).set j ((l.getD j 0 : Nat) - 1)).map Int.toNat = l.set j (l.getD j 0 - 1) := by
  have e : (l.map fun n : Nat => (n : Int)).set j ((l.getD j 0 : Nat) - 1) = (l.set j (l.getD j 0 - 1)).map fun n : Nat => (n : Int) := by
    rw [List.map_set]
    congr 1
    omega
  have hs : ∀ l : List Nat, (l.map fun n : Nat => (n : Int)).sum = (l.sum : Int) := by
    intro l
    induction l with
    | nil => rfl
    | cons n l ih => simp [ih]
  obtain ⟨h1, h2, h3⟩ := h
  have h4 := (facs_set l j hj hp).2
  rw [e]
  refine ⟨⟨by simpa using h1, ?_, ?_⟩, ?_⟩
  · intro x hx
    simp only [List.mem_map] at hx
    obtain ⟨n, hn, rfl⟩ := hx
    rcases List.mem_or_eq_of_mem_set hn with hn | rfl
    · exact h2 _ (List.mem_map.2 ⟨n, hn, rfl⟩)
    · have := h2 (l.getD j 0 : Nat) (List.mem_map.2 ⟨_, by simp [hj], rfl⟩)
      omega
  · rw [hs] at h3 ⊢
    omega
  · exact toNat_map _

theorem rev_take (l : List Nat) (j : Nat) (hj : j < l.length) : l.reverse.take (l.length - j) = l.reverse.take (l.length - (j + 1)) ++ [l.getD j 0] := by
  rw [show l.length - j = (l.length - (j + 1)) + 1 by omega, List.take_succ_eq_append_getElem (by simp; omega)]
  congr 2
  simp [hj]
  congr 1
  omega

set_option maxHeartbeats 1000000 in
set_option maxRecDepth 100000 in
theorem pascal_ok (l : List Nat) (ao : Option Addr) (cap : Nat) (W : World) (hx : IntsAt .i64 W ao (l.map fun n : Nat => (n : Int))) (hok : ok (l.map fun n : Nat => (n : Int))) :
    Calls Try.prog 3 #[.slice ao l.length cap] W fun e w' => e = .returned (.bool true) ∧ Below W.heap.size W w' := by
  obtain ⟨i0, hi0, hz0, hz1, hz2⟩ := info_parts info3
  have h6 : l.length ≤ 6 := by simpa using hok.1
  have h20 : l.sum ≤ 20 := by have := (map_toNat _ hok.2.1).2; have h3 := hok.2.2; rw [toNat_map] at this; omega
  have hb0 : Below W.heap.size W (W.alloc (.cells #[.int .i64 1, .int .i64 2] 3)) := (Below.refl _ _).alloc (Nat.le_refl _) _
  have hx1 := hx.below (Nat.le_refl _) hb0
  have HX := Lib.hid hx1; clear hx1
  have HX0 := Lib.hid hx; clear hx
  have HOK := Lib.hid hok; clear hok
  have hc := Count_any (l.map fun n : Nat => (n : Int)) ao cap (W.alloc (.cells #[.int .i64 1, .int .i64 2] 3)) HX.out (by simp; unfold maxLen; omega)
  rw [List.length_map] at hc
  have HC := Lib.hid hc; clear hc
  have hmb : mult l ≤ 2432902008176640000 := by have := mult_le l; have h2 := fac_mono h20; rw [fac20] at h2; omega
  have hb0' : Below W.heap.size W (W.alloc (.cells #[.int .i64 1, .int .i64 2] 3)) := hb0
  have HB0 := Lib.hid hb0
  clear hb0 hb0'
  obtain ⟨W1, hW1⟩ : ∃ W1, W1 = W.alloc (.cells #[.int .i64 1, .int .i64 2] 3) := ⟨_, rfl⟩
  have hs1 : W1.heap.size = W.heap.size + 1 := by rw [hW1]; simp
  go_enter Try.func3, Try.ntmps3
  go_wp2_with fail
  refine (turned_any _).mono ?_
  rintro e w1 ⟨rfl, rfl⟩
  go_wp2_with fail
  rw [← hW1] at HC HB0 ⊢
  clear hW1
  refine HC.out.mono ?_
  rintro e w1 ⟨hp, rfl⟩
  rcases hp with ⟨_, rfl⟩ | ⟨h, _⟩
  · rw [toNat_map]
    obtain ⟨m, hm⟩ : ∃ m, m = mult l := ⟨_, rfl⟩
    rw [← hm] at hmb ⊢
    have HM := Lib.hid hm; clear hm
    go_wp2_with fail
    go_loopw [9, 8, 7, 6] (fun i v a t wr => ∃ r : Nat, r ≤ l.length ∧ (r = 0 ∧ i = .int .i64 (-1) ∨ ∃ j : Nat, r = j + 1 ∧ i = .int .i64 j) ∧ wr.ownsRow (W.heap.size + 1) 3 1 v (l.length - r) (((l.reverse.take (l.length - r)).map fun n : Nat => (n : Int)).map (Value.int .i64)) ∧
        a = .int .i64 (allDown l (l.length - r) : Nat) ∧ t = .int .i64 (down l (l.length - r) : Nat) ∧ Below W1.heap.size W1 wr) (fun i _ _ _ _ => (intOf i + 1).toNat)
    case atStart =>
      refine ⟨l.length, by omega, ?_, by simpa using World.ownsRow_nil _ _ _ _, by simp [allDown], by simp [down], Below.refl _ _⟩
      rcases Nat.eq_zero_or_pos l.length with h0 | h0
      · exact .inl ⟨h0, by rw [h0]; rfl⟩
      · exact .inr ⟨l.length - 1, by omega, by go_num⟩
    case round =>
      obtain ⟨r, hr, hi, hown, rfl, rfl, hbr⟩ := hrel
      have hdl := down_le l (l.length - r) (by omega)
      rw [← HM.out] at hdl
      have hal := allDown_le l (l.length - r) (by omega)
      rcases hi with ⟨rfl, rfl⟩ | ⟨j, rfl, rfl⟩
      · obtain ⟨ao', cap', rfl⟩ := owns_shape hown
        simp only [Nat.sub_zero] at hown ⊢
        have htk : l.reverse.take l.length = l.reverse := List.take_of_length_le (by simp)
        rw [htk] at hown
        have hx9 := IntsAt.of_owns hown
        clear htk hown
        have hsum : mult l.reverse = m := by rw [mult_reverse, HM.out]
        have hsum' : l.reverse.sum = l.sum := sum_rev l
        have HSUM := Lib.hid hsum; clear hsum
        have e2 : allDown l l.length = l.sum := allDown_full l
        have e1 : (l.sum = 0 ∧ down l l.length = 0 ∧ m = 1) ∨ (0 < l.sum ∧ down l l.length = m) := by
          rcases Nat.eq_zero_or_pos l.sum with h | h
          · refine .inl ⟨h, ?_, by rw [HM.out]; exact mult_none l h⟩
            have := down_facs l l.length (Nat.le_refl _)
            rw [allDown_full, h, Nat.zero_mul] at this
            have h3 := facs_pos l
            rcases Nat.mul_eq_zero.1 this with h | h
            · exact h
            · omega
          · exact .inr ⟨h, by rw [down_full l h, HM.out]⟩
        rw [e2]
        clear e2 hdl hal
        have hbf := HB0.out.trans (hbr.mono (by omega))
        have hrok : ok (l.reverse.map fun n : Nat => (n : Int)) := by
          obtain ⟨o1, o2, o3⟩ := HOK.out
          refine ⟨by simpa using o1, fun x hx => o2 x (by simpa using hx), ?_⟩
          have : (l.reverse.map fun n : Nat => (n : Int)) = (l.map fun n : Nat => (n : Int)).reverse := by simp
          rw [this]
          have hr : ∀ xs : List Int, xs.reverse.sum = xs.sum := by
            intro xs
            induction xs with
            | nil => rfl
            | cons x xs ih => rw [List.reverse_cons, List.sum_append, ih]; simp; omega
          rw [hr]; exact o3
        have HROK := Lib.hid hrok
        clear hrok hbr
        obtain ⟨S, hS⟩ : ∃ S, S = l.sum := ⟨_, rfl⟩
        rw [← hS] at h20 e1 ⊢
        have HS := Lib.hid hS; clear hS hsum'
        have hw := Count_any (l.reverse.map fun n : Nat => (n : Int)) ao' cap' _ hx9 (by simp; unfold maxLen; omega)
        rw [List.length_map, List.length_reverse] at hw
        have HW := Lib.hid hw
        clear hw hx9
        rcases e1 with ⟨rfl, e3, rfl⟩ | ⟨h0, e3⟩
        · rw [e3]
          clear e3
          go_wp2_with fail
          refine HW.out.mono ?_
          rintro e w4 ⟨hp4, rfl⟩
          rcases hp4 with ⟨_, rfl⟩ | ⟨h, _⟩
          · rw [toNat_map, HSUM.out]
            go_wp2_with fail
            go_ret
            exact ⟨rfl, hbf⟩
          · exact absurd HROK.out h
        · rw [e3]
          clear e3
          have h0' : ((S : Int) == 0) = false := by simp; omega
          go_wp2_with fail
          refine HW.out.mono ?_
          rintro e w4 ⟨hp4, rfl⟩
          rcases hp4 with ⟨_, rfl⟩ | ⟨h, _⟩
          · rw [toNat_map, HSUM.out]
            go_wp2_with fail
            go_ret
            exact ⟨by simp, hbf⟩
          · exact absurd HROK.out h
      · have hjl : j < l.length := by omega
        have hxr := HX0.out.below (Nat.le_refl _) (HB0.out.trans (hbr.mono (by omega)))
        have hov := hxr j (by simpa using hjl)
        obtain ⟨b, o, rfl, hc⟩ := hov
        have hv : (l.map fun n : Nat => (n : Int)).getD j 0 = (l.getD j 0 : Nat) := by simp [hjl]
        rw [hv] at hc
        clear hv
        have e1 : down l (l.length - j) = down l (l.length - (j + 1)) + term l j := by
          rw [show l.length - j = (l.length - (j + 1)) + 1 by omega, down]; congr 2; omega
        have e2 : allDown l (l.length - j) = allDown l (l.length - (j + 1)) + l.getD j 0 := by
          rw [show l.length - j = (l.length - (j + 1)) + 1 by omega, allDown]; congr 2; omega
        have hdl2 := down_le l (l.length - j) (by omega)
        have hal2 := allDown_le l (l.length - j) (by omega)
        rw [← HM.out, e1] at hdl2
        rw [e2] at hal2
        have E1 := Lib.hid e1; clear e1
        have E2 := Lib.hid e2; clear e2
        have hrt := rev_take l j hjl
        have HRT := Lib.hid hrt; clear hrt
        have hterm : term l j = if 0 < l.getD j 0 then mult (l.set j (l.getD j 0 - 1)) else 0 := rfl
        have hos : 0 < l.getD j 0 → _ := fun hp => ok_set HOK.out hjl hp
        have HOS := Lib.hid hos; clear hos
        obtain ⟨n, hn⟩ : ∃ n, n = l.getD j 0 := ⟨_, rfl⟩
        obtain ⟨T, hT⟩ : ∃ T, T = term l j := ⟨_, rfl⟩
        obtain ⟨D, hD⟩ : ∃ D, D = down l (l.length - (j + 1)) := ⟨_, rfl⟩
        obtain ⟨A, hA⟩ : ∃ A, A = allDown l (l.length - (j + 1)) := ⟨_, rfl⟩
        rw [← hn] at hc hal2 HRT hterm HOS
        rw [← hn] at E2
        rw [← hT] at hdl2 E1 hterm
        rw [← hD] at hdl2 E1 hdl ⊢
        rw [← hA] at hal2 hal E2 ⊢
        have HN := Lib.hid hn; clear hn
        have HTT := Lib.hid hT; clear hT
        have HD := Lib.hid hD; clear hD
        have HA := Lib.hid hA; clear hA
        have HTM := Lib.hid hterm; clear hterm
        have hsz := hbr.size
        have HXR := Lib.hid hxr; clear hxr
        go_wp2_with (at_builtin; refine wpList_push _ rfl _ _ 22 rfl (W.heap.size + 1) 3 i0 (.int .i64 0) 1 8 Try.underlying22 hi0 hz0 hz1 hz2 rfl (by decide) _ _ _ rfl (hown.alloc _) ⟨wr.heap.size, 0, none⟩ 1 [.int .i64 n] rfl rfl (cell_one_new _ _ _) (one1 _ _) ?c3 ?c4 ?c5 ?_)
        case c3 => unfold maxLen; omega
        case c4 => omega
        case c5 => simp; omega
        intro g cap1 w2 hown2 hg2
        have hb2 := (hbr.alloc (by omega) (.cells #[.int .i64 n] 3)).grown hg2 (by simp; omega) (fun k hk => by have := (hown.lt k hk).1; omega)
        have hx2 := HX0.out.below (Nat.le_refl _) (HB0.out.trans (hb2.mono (by omega)))
        have HX2 := Lib.hid hx2
        have hc2 : w2.cell? ⟨b, o + j, none⟩ = some (.int .i64 n) := by
          obtain ⟨b', o', h1, h2⟩ := hx2 j (by simpa using hjl)
          simp only [Option.some.injEq, Addr.mk.injEq, and_true] at h1
          obtain ⟨rfl, rfl⟩ := h1
          rw [h2]; simp [hjl, HN.out]
        clear hx2 hc hown hg2 hbr hsz
        by_cases hp : 0 < n
        · obtain ⟨ho1, ho2⟩ := HOS.out hp
          have HTM2 := Lib.hid (show T = mult (l.set j (n - 1)) by rw [HTM.out, if_pos hp])
          have HO1 := Lib.hid ho1; clear ho1
          have HO2 := Lib.hid ho2; clear ho2
          go_wp2_with fail
          have hw := with_any (l.map fun n : Nat => (n : Int)) (some ⟨b, o, none⟩) cap j ((n : Int) - 1) w2 HX2.out (by simpa using hjl) (by simp; omega)
          rw [List.length_map] at hw
          refine hw.mono ?_
          clear hw
          rintro e w3 ⟨g3, cap3, rfl, hx3, hb3⟩
          go_wp2_with fail
          have hw := Count_any ((l.map fun n : Nat => (n : Int)).set j ((n : Int) - 1)) (some ⟨g3, 0, none⟩) cap3 w3 hx3 (by simp; unfold maxLen; omega)
          rw [List.length_set, List.length_map] at hw
          refine hw.mono ?_
          clear hw
          rintro e w4 ⟨hp4, rfl⟩
          rcases hp4 with ⟨_, rfl⟩ | ⟨h, _⟩
          · rw [HO2.out, ← HTM2.out]
            have hown3 := owns_below hown2 hb3
            have hb4 := hb2.trans (hb3.mono (by have := hb2.size; omega))
            have HX3 := Lib.hid hx3
            clear hx3 hown2 hb2 hb3
            go_wp2_with fail
            go_roundw
            case rel =>
              refine ⟨j, by omega, ?_, ?_, ?_, ?_, hb4⟩
              · rcases Nat.eq_zero_or_pos j with h0 | h0
                · subst h0; exact .inl ⟨rfl, rfl⟩
                · exact .inr ⟨j - 1, by omega, by go_num⟩
              · have := hown3
                rw [show l.length - (j + 1) + 1 = l.length - j by omega] at this ⊢
                rw [HRT.out, List.map_append, List.map_append]
                simpa [List.map_take, List.map_reverse] using this
              · rw [E2.out]; try go_num
              · rw [E1.out]; try go_num
            case measure => simp [intOf]
          · exact absurd HO1.out h
        · have HT0 := Lib.hid (show T = 0 by rw [HTM.out, if_neg hp])
          go_wp2_with fail
          go_roundw
          case rel =>
            refine ⟨j, by omega, ?_, ?_, ?_, ?_, hb2⟩
            · rcases Nat.eq_zero_or_pos j with h0 | h0
              · subst h0; exact .inl ⟨rfl, rfl⟩
              · exact .inr ⟨j - 1, by omega, by go_num⟩
            · have := hown2
              rw [show l.length - (j + 1) + 1 = l.length - j by omega] at this ⊢
              rw [HRT.out, List.map_append, List.map_append]
              simpa [List.map_take, List.map_reverse] using this
            · rw [E2.out]; try go_num
            · rw [E1.out, HT0.out]; try go_num
          case measure => simp [intOf]
  · exact absurd HOK.out h
end Go.Proofs.Ytkdfikjfbbnekaa
