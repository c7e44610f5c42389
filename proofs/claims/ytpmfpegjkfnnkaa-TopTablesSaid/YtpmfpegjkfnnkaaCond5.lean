/- cond.Tests. No conditions. -/
import Derived.Test.YtpmfpegjkfnnkaaCond4
import Derived.Test.YtpmfpegjkfnnkaaCondT
import Derived.Test.YtpmfpegjkfnnkaaShelf
import Derived.Test.YtpmfpegjkfnnkaaOwnSort
import Derived.Test.YtpmfpegjkfnnkaaIntsCut
import Derived.Test.YtpmfpegjkfnnkaaLists
import Derived.Deep.CutRange
import Derived.StillTailTactics
namespace Go.Proofs.Ytpmfpegjkfnnkaa
open Go.RowKit Go.Mine Go.Mine.Cond Go.Sort

/-- Sort of a slice of the call's own, nil too. -/
theorem sort_row (w : World) (base : Nat) (v : Value) (xs : List Int) (hs : xs.length ≤ 1000) (hb : base ≤ w.heap.size) (ho : w.ownsRow base 3 1 v xs.length (xs.map (Value.int .i64))) :
    Calls Try.prog 16 #[v] w fun e w' => e = .returned (.tuple #[]) ∧ w'.ownsRow base 3 1 v (xs.mergeSort fun x y => decide (x ≤ y)).length ((xs.mergeSort fun x y => decide (x ≤ y)).map (Value.int .i64)) ∧ Below base w w' := by
  rcases ho.2 with ⟨hv, h0⟩ | ⟨g, cap, cur, hv, hg, _⟩
  · have hx : xs = [] := List.eq_nil_of_length_eq_zero h0
    subst hx
    subst hv
    refine (Try.slices_Sort_int_none none 0 w).mono ?_
    rintro e w' ⟨rfl, rfl⟩
    exact ⟨rfl, by simpa using World.ownsRow_nil _ _ _ _, Below.refl _ _⟩
  · subst hv
    obtain ⟨hh, hc, hm⟩ := own_holds ho
    refine (Try.slices_Sort_int g 0 cap xs w hh (ho.lt g rfl).2 (by omega)).mono ?_
    rintro e w' ⟨rfl, n, os, rfl⟩
    have h := own_put (ts := xs.mergeSort fun x y => decide (x ≤ y)) ho (List.length_mergeSort _) n os
    refine ⟨rfl, ?_, (Below.refl _ _).grown h.2 hb (fun k hk => by simp [Value.ownBlock] at hk; omega)⟩
    rw [List.length_mergeSort]
    exact h.1
theorem compact_row (w : World) (base : Nat) (v : Value) (zs : List Int) (hs : zs.length ≤ 1000) (hb : base ≤ w.heap.size) (ho : w.ownsRow base 3 1 v zs.length (zs.map (Value.int .i64))) :
    Calls Try.prog 17 #[v] w fun e w' => ∃ v', e = .returned v' ∧ w'.ownsRow base 3 1 v' (Lib.compact zs).length ((Lib.compact zs).map (Value.int .i64)) ∧ Below base w w' := by
  rcases ho.2 with ⟨hv, h0⟩ | ⟨g, cap, cur, hv, hg, _⟩
  · have hx : zs = [] := List.eq_nil_of_length_eq_zero h0
    subst hx
    subst hv
    refine (Try.slices_Compact_int_empty none 0 w).mono ?_
    rintro e w' ⟨rfl, rfl⟩
    exact ⟨_, rfl, World.ownsRow_nil _ _ _ _, Below.refl _ _⟩
  · subst hv
    obtain ⟨hh, hc, hm⟩ := own_holds ho
    refine (Try.slices_Compact_int g 0 cap zs w hh (by omega) hc).mono ?_
    rintro e w' ⟨rfl, q, rfl⟩
    have hcut := own_cut (ys := Lib.compact zs) ho (Lib.compact_length_le zs) q
    exact ⟨_, rfl, hcut.1, (Below.refl _ _).grown hcut.2 hb (fun k hk => by simp [Value.ownBlock] at hk; omega)⟩

theorem two1 (a b : Int) : ∀ u ∈ [Value.int .i64 a, .int .i64 b], u.oneCell' = true := by intro u hu; simp at hu; rcases hu with rfl | rfl <;> rfl
theorem cell_two_new (w : World) (a b : Value) (t : TypeId) : ∀ j u, [a, b][j]? = some u → (w.alloc (.cells #[a, b] t)).cell? ((⟨w.heap.size, 0, none⟩ : Addr).add j) = some u := by
  intro j u hu
  match j with
  | 0 => simp at hu; subst hu; simp [go_sem, Addr.add]
  | 1 => simp at hu; subst hu; simp [go_sem, Addr.add]
  | j + 2 => simp at hu

set_option maxHeartbeats 4000000 in
set_option maxRecDepth 100000 in
theorem tests_ok (n : Nat) (fs : List Bool) (fo : Option Addr) (fc : Nat) (W : World) (hf : BoolsAt W fo fs) (hok : cok n fs.length) :
    Calls Try.prog 6 #[.int .i64 n, .slice fo fs.length fc] W fun e w' => ∃ v L, e = .returned (.tuple #[v, .nilIface]) ∧ w'.ownsRow W.heap.size 3 1 v L.length (L.map (Value.int .i64)) ∧ Prune n fs 0 L ∧ Below W.heap.size W w' := by
  obtain ⟨i0, hi0, hz0, hz1, hz2⟩ := info_parts slInfo3
  have HC := Lib.hid (ccheck_any n fo fs.length fc W)
  have HOK := Lib.hid hok
  obtain ⟨m, hm, hn1, hn6, hl⟩ := hok
  obtain rfl : n = m := by omega
  clear hm
  have HF := Lib.hid (show ∀ w, Below W.heap.size W w → BoolsAt w fo fs from fun w hb => hf.below (Nat.le_refl _) hb)
  have HL := Lib.hid hl
  have hl64 : fs.length ≤ 64 := by have := pow_le hn6; omega
  clear hf hl
  go_enter Try.func6, Try.ntmps6
  go_wp2_with fail
  refine HC.out.mono ?_
  rintro e w' ⟨⟨_, rfl⟩ | ⟨h, _⟩, rfl⟩
  rotate_left
  · exact absurd HOK.out h
  go_wp2_with fail
  go_loopw [7, 21] (fun v iv wr => ∃ (i : Nat) (out : List Int), iv = .int .i64 i ∧ i ≤ n ∧ RowKit.Hid (Col fs i out) ∧ wr.ownsRow W.heap.size 3 1 v out.length (out.map (Value.int .i64)) ∧ Below W.heap.size W wr) (fun _ iv _ => n - (intOf iv).toNat)
  case atStart => exact ⟨0, [], rfl, by omega, Lib.hid (Col.start fs), World.ownsRow_nil _ _ _ _, Below.refl _ _⟩
  case round =>
    obtain ⟨i, out, rfl, hi, hcol, ho, hb⟩ := hrel
    have hol := hcol.out.len
    have HO := Lib.hid ho
    have HB := Lib.hid hb
    by_cases hin : i < n
    · have HP := Lib.hid (pair_any n i fs fo fc wr (HF.out _ hb))
      clear ho hb
      go_wp2_with fail
      refine HP.out.mono ?_
      clear HP
      rintro e w2 ⟨hp, q, hw2⟩
      have hb2 : Below W.heap.size W w2 := by rw [hw2]; exact below_drewN HB.out q
      have ho2 : w2.ownsRow W.heap.size 3 1 u7 out.length (out.map (Value.int .i64)) := by rw [hw2]; exact HO.out
      have hsz := hb2.size
      have HO2 := Lib.hid ho2
      have HB2 := Lib.hid hb2
      clear hw2 hb2 ho2 HO HB
      rcases hp with ⟨h, _⟩ | ⟨_, h, _⟩ | ⟨_, _, hno, rfl⟩ | ⟨_, _, t, ht, rfl⟩
      · exact absurd HOK.out h
      · exact absurd ⟨by omega, by omega⟩ h
      · rw [Int.toNat_natCast] at hno
        have HC2 := Lib.hid (hcol.out.none hno)
        clear hno hcol
        go_wp2_with fail
        go_roundw
        case rel => exact ⟨i + 1, out, by go_num, by omega, HC2, HO2.out, HB2.out⟩
        case measure => simp [intOf]; omega
      · rw [Int.toNat_natCast] at ht
        have HC2 := Lib.hid (hcol.out.two hn6 HL.out hin ht)
        rw [Int.toNat_natCast]
        obtain ⟨u, hu⟩ : ∃ u : Nat, u = t + 2 ^ i := ⟨_, rfl⟩
        rw [← hu] at HC2 ⊢
        have hmap : out.map (Value.int .i64) ++ [.int .i64 t, .int .i64 u] = (out ++ [(t : Int), (u : Int)]).map (Value.int .i64) := by simp
        have HMAP := Lib.hid hmap
        clear ht hcol hu hmap
        go_wp2_with (at_builtin; refine wpList_extend _ rfl _ _ 23 rfl W.heap.size 3 i0 (.int .i64 0) 1 8 Try.underlying23 hi0 hz0 hz1 hz2 rfl (by decide) _ _ _ rfl (HO2.out.alloc _) ⟨w2.heap.size, 0, none⟩ 2 2 [.int .i64 t, .int .i64 u] rfl rfl (cell_two_new _ _ _ _) (two1 _ _) (by omega) (by unfold maxLen; omega) (by omega) (by simp; omega) ?_)
        intro g cap w7 ho7 hg7
        have hb7 := (HB2.out.alloc hsz (.cells #[.int .i64 t, .int .i64 u] 3)).grown hg7 (by simp; omega) (fun k hk => (HO2.out.lt k hk).1)
        rw [HMAP.out] at ho7
        have HO7 := Lib.hid ho7
        have HB7 := Lib.hid hb7
        clear ho7 hb7 hg7
        go_wp2_with fail
        go_roundw
        case rel => exact ⟨i + 1, out ++ [(t : Int), (u : Int)], by go_num, by omega, HC2, by rw [List.length_append]; exact HO7.out, HB7.out⟩
        case measure => simp [intOf]; omega
    · obtain rfl : i = n := by omega
      have HS := Lib.hid (sort_row wr W.heap.size u7 out (by omega) hb.size ho)
      have HPS := Lib.hid (Prune.start hn6 HL.out hcol.out)
      have hsl := sorted_len out
      unfold sorted at hsl
      have HSL := Lib.hid hsl
      clear ho hb HO hcol hsl
      go_wp2_with fail
      refine HS.out.mono ?_
      clear HS
      rintro e w2 ⟨rfl, ho2, hb2⟩
      have hb3 := HB.out.trans hb2
      have HCP := Lib.hid (compact_row w2 W.heap.size u7 _ (by rw [List.length_mergeSort]; omega) hb3.size ho2)
      have HB3 := Lib.hid hb3
      clear ho2 hb2 hb3 HB
      go_wp2_with fail
      refine HCP.out.mono ?_
      clear HCP
      rintro e w3 ⟨v3, rfl, ho3, hb4⟩
      have hb5 := HB3.out.trans hb4
      have e1 : Lib.compact (out.mergeSort fun x y => decide (x ≤ y)) = sorted out := rfl
      rw [e1] at ho3
      obtain ⟨S, hS⟩ : ∃ S, S = sorted out := ⟨_, rfl⟩
      rw [← hS] at ho3 HPS
      obtain ⟨a3, c3, rfl⟩ := owns_shape ho3
      have hpl := HPS.out.len
      have HO3 := Lib.hid ho3
      have HB5 := Lib.hid hb5
      clear ho3 hb4 hb5 e1 hS HB3 HSL
      go_wp2_with fail
      go_loopw [7, 12, 13] (fun v iv _ wr => ∃ (k : Nat) (L : List Int), iv = .int .i64 ((k : Int) - 1) ∧ RowKit.Hid (Prune i fs k L) ∧ wr.ownsRow W.heap.size 3 1 v L.length (L.map (Value.int .i64)) ∧ Below W.heap.size W wr) (fun _ iv _ _ => (intOf iv + 1).toNat)
      case atStart => exact ⟨S.length, S, rfl, HPS, HO3.out, HB5.out⟩
      clear HO3 HB5 HPS
      case round =>
        obtain ⟨k, L, rfl, hpr, ho, hb⟩ := hrel
        have hle := hpr.out.le
        have hll := hpr.out.len
        have hbs := hb.size
        cases k with
        | zero =>
          clear hle
          go_wp2_with fail
          go_ret2
          exact ⟨_, L, rfl, ho, hpr.out, hb⟩
        | succ j =>
          have ej : ((j + 1 : Nat) : Int) - 1 = (j : Int) := by omega
          rw [ej]
          clear ej
          have hj0 : (0 : Int) ≤ (j : Int) := by omega
          obtain ⟨ao, cap, rfl⟩ := owns_shape ho
          obtain ⟨g, og, hao, _⟩ := IntsAt.of_owns ho j (by omega)
          subst hao
          have hcp : L.length ≤ cap := by
            rcases ho.2 with ⟨h, _⟩ | ⟨g', cap', cur, hv, _, _, h1, _⟩
            · cases h
            · cases hv; exact h1
          obtain ⟨hi, hhi⟩ : ∃ hi, hi = j + 1 := ⟨_, rfl⟩
          have hji : (j : Int) + 1 = (hi : Int) := by omega
          have hwr : IntKind.i64.wrap (hi : Int) = hi := by rw [IntKind.wrap_i64]; omega
          have hhl : hi ≤ L.length := by omega
          have hhc : hi ≤ cap := by omega
          have hjc : j ≤ cap := by omega
          have hjl : j ≤ L.length := by omega
          have her : L.take j ++ L.drop hi = L.eraseIdx j := by rw [List.eraseIdx_eq_take_drop_succ, hhi]
          have HER := Lib.hid her
          have HPR := Lib.hid hpr.out
          have HO := Lib.hid ho
          have HB := Lib.hid hb
          by_cases hcap : cap = hi
          case' pos =>
            obtain rfl : hi = L.length := by omega
            subst hcap
            have R := Lib.hid (rest_of ho (by omega) j L.length (by omega) (some ⟨g, og, none⟩) 0 0 (by omega) (IntsAt.short (by simp)) (fun h => by cases h))
            clear ho hb her hpr hhi
            go_wp2_with fail
            go_still_tail 7, (by kernel_rfl)
            go_wp2_with fail
            refine R.out.mono ?_
            clear R
            rintro e w5 ⟨v5, rfl, hov, hbv⟩
            rw [HER.out] at hov
          case' neg =>
            have R := Lib.hid (rest_of ho (by omega) j hi (by omega) (some ⟨g, og + hi, none⟩) (L.length - hi) (cap - hi) rfl (IntsAt.drop (IntsAt.of_owns ho) hi) (fun h => by cases h))
            clear ho hb her hpr hhi
            go_wp2_with fail
            go_still_tail 7, (by kernel_rfl)
            go_wp2_with fail
            refine R.out.mono ?_
            clear R
            rintro e w5 ⟨v5, rfl, hov, hbv⟩
            rw [HER.out] at hov
          all_goals
            obtain ⟨a5, c5, rfl⟩ := owns_shape hov
            have hb6 := HB.out.trans (hbv.mono hbs)
            have ho6 := owns_below HO.out hbv
            have hov6 := owns_mono hov hbs
            have hel : (L.eraseIdx j).length ≤ L.length := (List.eraseIdx_sublist _ _).length_le
            have hci := covers_any i hn1 hn6 fs (L.eraseIdx j) fo a5 fc c5 w5 (HF.out _ hb6) (IntsAt.of_owns hov) HL.out (fun x hx => HPR.out.range x ((List.eraseIdx_sublist _ _).mem hx)) (by unfold maxLen; omega)
            obtain ⟨E, hE⟩ : ∃ E, E = L.eraseIdx j := ⟨_, rfl⟩
            have HKEEP := Lib.hid (fun h => HPR.out.keep h)
            have HDROP := Lib.hid (fun h => HPR.out.drop h)
            rw [← hE] at hci hov6 HKEEP HDROP ⊢
            have HCI := Lib.hid hci
            have HO6 := Lib.hid ho6
            have HV6 := Lib.hid hov6
            have HB6 := Lib.hid hb6
            clear hE hci hov hov6 hb6 ho6 hbv hel HPR HER HB HO
            go_wp2_with fail
            refine HCI.out.mono ?_
            clear HCI
            rintro e w7 ⟨⟨b, rfl, hbc⟩, hb7⟩
            have HO7 := Lib.hid (owns_below HO6.out hb7)
            have HV7 := Lib.hid (owns_below HV6.out hb7)
            have HB7 := Lib.hid (HB6.out.trans (hb7.mono HB6.out.size))
            clear hb7 HO6 HV6 HB6
            cases b
            case' false =>
              have HK := Lib.hid (HKEEP.out (fun h => by have := hbc.2 h; cases this))
            case' true =>
              have HK := Lib.hid (HDROP.out (hbc.1 rfl))
          all_goals
            clear hbc HKEEP HDROP
            go_wp2_with fail
            go_roundw
          all_goals first
            | exact ⟨j, L, by go_num, HK, HO7.out, HB7.out⟩
            | exact ⟨j, E, by go_num, HK, HV7.out, HB7.out⟩
            | (simp [intOf] <;> omega)
end Go.Proofs.Ytpmfpegjkfnnkaa
