/- assayerref2: LensFault, Orders, InterCount, InterRank. -/
import Derived.Test.YtkdfikjfbbnekaaDoorG
import Derived.Test.YtkdfikjfbbnekaaDoorMore
import Derived.Test.YtkdfikjfbbnekaaDoorTold
import Derived.Deep.QuietTactic
import Derived.BigQuiet
namespace Go.Proofs.YtkdfikjfbbnekaaDoor
open Go.RowKit Go.Mine Go.Mine.Inter

set_option maxHeartbeats 400000 in
theorem lensFault_any (xs : List Int) (ao : Option Addr) (cap : Nat) (w : World) (hx : IntsAt .i64 w ao xs) (hl : xs.length ≤ maxLen) :
    Calls Tryd.prog 5 #[.slice ao xs.length cap] w fun e w' => e = .returned (.int .i64 (fault xs)) ∧ w = w' := by
  unfold maxLen at hl
  have HX := Lib.hid hx; clear hx
  by_cases h6 : 6 < xs.length
  · have HF := Lib.hid (fault_long h6)
    go_enter Tryd.func5, Tryd.ntmps5
    go_wp2_with fail
    go_ret
    exact ⟨by rw [← HF.out]; rfl, rfl⟩
  · go_enter Tryd.func5, Tryd.ntmps5
    go_wp2_with fail
    go_loop [4, 3] (fun i a => ∃ k : Nat, k ≤ xs.length ∧ i = .int .i64 k ∧ a = .int .i64 (xs.take k).sum ∧ (∀ x ∈ xs.take k, 0 ≤ x ∧ x ≤ 8)) (fun i _ => xs.length - (intOf i).toNat)
    case atStart => exact ⟨0, by omega, rfl, by simp, by simp⟩
    case round =>
      obtain ⟨k, hk, rfl, rfl, hall⟩ := hrel
      have hsb := sum_bound _ hall
      have hlen : (xs.take k).length ≤ 6 := by rw [List.length_take]; omega
      have HALL := Lib.hid hall; clear hall
      by_cases hlt : k < xs.length
      · obtain ⟨b, o, rfl, hc⟩ := HX.out k hlt
        have hts : xs.take (k + 1) = xs.take k ++ [xs.getD k 0] := by rw [List.take_succ_eq_append_getElem hlt]; simp [hlt]
        obtain ⟨x, hx⟩ : ∃ x, x = xs.getD k 0 := ⟨_, rfl⟩
        have hmem : x ∈ xs := by rw [hx]; simp [hlt]
        rw [← hx] at hc hts
        have HTS := Lib.hid hts; clear hts
        have HXX := Lib.hid hx; clear hx
        obtain ⟨s, hs⟩ : ∃ s, s = (xs.take k).sum := ⟨_, rfl⟩
        rw [← hs] at hsb ⊢
        have HS := Lib.hid hs; clear hs
        have HM := Lib.hid hmem; clear hmem
        by_cases h0 : x < 0
        · have HF := Lib.hid (fault_range h6 HM.out (by omega))
          go_wp2_with fail
          go_ret
          exact ⟨by rw [← HF.out]; rfl, rfl⟩
        · by_cases h8 : 8 < x
          · have HF := Lib.hid (fault_range h6 HM.out (by omega))
            go_wp2_with fail
            go_ret
            exact ⟨by rw [← HF.out]; rfl, rfl⟩
          · go_wp2_with fail
            go_round
            case rel =>
              refine ⟨k + 1, by omega, by go_num, ?_, ?_⟩
              · rw [HTS.out, List.sum_append, ← HS.out]; simp
              · rw [HTS.out]
                intro y hy
                rcases List.mem_append.1 hy with hy | hy
                · exact HALL.out y hy
                · simp at hy; subst hy; omega
            case measure => simp [intOf]; omega
      · have hkl : xs.take k = xs := List.take_of_length_le (by omega)
        rw [hkl]
        rw [hkl] at HALL hsb
        have HKL := Lib.hid hkl; clear hkl
        obtain ⟨s, hs⟩ : ∃ s, s = xs.sum := ⟨_, rfl⟩
        rw [← hs] at hsb ⊢
        have HS := Lib.hid hs; clear hs
        by_cases h20 : 20 < s
        · have HF := Lib.hid (fault_sum h6 HALL.out (by rw [← HS.out]; exact h20))
          go_wp2_with fail
          go_ret
          exact ⟨by rw [← HF.out]; rfl, rfl⟩
        · have HF := Lib.hid (fault_ok ⟨by omega, HALL.out, by rw [← HS.out]; omega⟩)
          go_wp2_with fail
          go_ret
          exact ⟨by rw [HF.out]; rfl, rfl⟩

theorem orders_any (n : Nat) (hn : n ≤ 20) (w : World) :
    Calls Tryd.prog 12 #[.int .i64 n] w fun e w' => e = .returned (.int .i64 (fac n)) ∧ w = w' := by
  go_enter Tryd.func12, Tryd.ntmps12
  go_wp2_with fail
  go_loop [3, 4] (fun o i => ∃ k F : Nat, i = .int .i64 k ∧ o = .int .i64 F ∧ 2 ≤ k ∧ (k ≤ n + 1 ∨ k = 2) ∧ RowKit.Hid (F = fac (k - 1))) (fun _ i => n + 1 - (intOf i).toNat)
  case atStart => exact ⟨2, 1, rfl, rfl, by omega, .inr rfl, Lib.hid rfl⟩
  case round =>
    obtain ⟨k, F, rfl, rfl, h2, hk, HF⟩ := hrel
    by_cases hkn : k ≤ n
    · have e : fac k = k * fac (k - 1) := by
        obtain ⟨m, rfl⟩ : ∃ m, k = m + 1 := ⟨k - 1, by omega⟩
        rfl
      rw [← HF.out] at e
      have hb := fac_mono (show k ≤ 20 by omega)
      rw [fac20] at hb
      obtain ⟨G, hG⟩ : ∃ G, G = fac k := ⟨_, rfl⟩
      rw [← hG] at e hb
      have q : (F : Int) * (k : Int) = (G : Int) := by rw [e, Int.natCast_mul, Int.mul_comm]
      have HG := Lib.hid hG
      clear hG e
      go_wp2_with fail
      go_round
      case rel => exact ⟨k + 1, G, by go_num, rfl, by omega, by omega, Lib.hid (by rw [HG.out]; rfl)⟩
      case measure => simp [intOf]; omega
    · have HE := Lib.hid (show F = fac n by
        rw [HF.out]
        rcases hk with h | h
        · rw [show k - 1 = n by omega]
        · rcases (show n = 0 ∨ n = 1 by omega) with h' | h' <;> subst h h' <;> rfl)
      go_wp2_with fail
      go_ret
      exact ⟨by rw [HE.out]; rfl, rfl⟩

theorem facs_cons_drop (l : List Nat) (k : Nat) (hk : k < l.length) : facs (l.drop k) = fac (l.getD k 0) * facs (l.drop (k + 1)) := by
  rw [List.drop_eq_getElem_cons hk]
  simp [hk, facs]
theorem facs_drop_le (l : List Nat) (k : Nat) : facs (l.drop k) ≤ facs l := by
  have h := facs_append (l.take k) (l.drop k)
  rw [List.take_append_drop] at h
  rw [h]
  exact Nat.le_mul_of_pos_left _ (facs_pos _)

set_option maxHeartbeats 400000 in
theorem interCount_any (l : List Nat) (ao : Option Addr) (cap : Nat) (w : World) (hx : IntsAt .i64 w ao (cast l)) (h20 : l.sum ≤ 20) (h6 : l.length ≤ 6) :
    Calls Tryd.prog 6 #[.slice ao l.length cap] w fun e w' => e = .returned (.int .i64 (mult l)) ∧ w = w' := by
  have HX := Lib.hid hx; clear hx
  go_enter Tryd.func6, Tryd.ntmps6
  go_wp2_with fail
  go_loop [4, 3] (fun i a => ∃ k s : Nat, k ≤ l.length ∧ i = .int .i64 k ∧ a = .int .i64 s ∧ s + (l.drop k).sum = l.sum) (fun i _ => l.length - (intOf i).toNat)
  case atStart => exact ⟨0, 0, by omega, rfl, rfl, by simp⟩
  case round =>
    obtain ⟨k, s, hk, rfl, rfl, hs⟩ := hrel
    by_cases hlt : k < l.length
    · obtain ⟨b, o, rfl, hc⟩ := HX.out k (by simpa using hlt)
      rw [cast_get' l k hlt] at hc
      have hd : l.drop k = l.getD k 0 :: l.drop (k + 1) := by rw [List.drop_eq_getElem_cons hlt]; simp [hlt]
      rw [hd, List.sum_cons] at hs
      clear hd
      obtain ⟨n, hn⟩ : ∃ n, n = l.getD k 0 := ⟨_, rfl⟩
      rw [← hn] at hc hs
      obtain ⟨S, hS⟩ : ∃ S, S = (l.drop (k + 1)).sum := ⟨_, rfl⟩
      rw [← hS] at hs
      have hb : s + n ≤ 20 := by omega
      have HS := Lib.hid hS
      have HE := Lib.hid hs
      clear hn hS hs
      go_wp2_with fail
      go_round
      case rel => exact ⟨k + 1, s + n, by omega, by go_num, by go_num, by rw [← HS.out]; have := HE.out; omega⟩
      case measure => simp [intOf]; omega
    · have hd : l.drop k = [] := List.drop_of_length_le (by omega)
      rw [hd] at hs
      obtain rfl : s = l.sum := by simpa using hs
      clear hd hs
      have HO := Lib.hid (orders_any l.sum h20 w)
      have hm := mult_facs l
      have hF := fac_mono h20
      rw [fac20] at hF
      obtain ⟨F, hF'⟩ : ∃ F, F = fac l.sum := ⟨_, rfl⟩
      rw [← hF'] at hm hF
      rw [← hF'] at HO
      have HM := Lib.hid hm
      have H20 := Lib.hid h20
      obtain ⟨S, hS⟩ : ∃ S, S = l.sum := ⟨_, rfl⟩
      rw [← hS] at HO h20 ⊢
      clear hF' hm hS
      go_wp2_with fail
      refine HO.out.mono ?_
      rintro e w1 ⟨rfl, rfl⟩
      clear HO
      go_wp2_with fail
      go_loop [6, 5] (fun i o => ∃ k Q : Nat, k ≤ l.length ∧ i = .int .i64 k ∧ o = .int .i64 Q ∧ Q ≤ F ∧ RowKit.Hid (Q = mult l * facs (l.drop k))) (fun i _ => l.length - (intOf i).toNat)
      case atStart => exact ⟨0, F, by omega, rfl, rfl, by omega, Lib.hid (by rw [List.drop_zero, HM.out])⟩
      case round =>
        obtain ⟨k, Q, hk, rfl, rfl, hQ, HQ⟩ := hrel
        by_cases hlt : k < l.length
        · obtain ⟨b, o, rfl, hc⟩ := HX.out k (by simpa using hlt)
          rw [cast_get' l k hlt] at hc
          have hq := HQ.out
          rw [facs_cons_drop l k hlt] at hq
          have hn20 := get_le_sum l k hlt
          obtain ⟨n, hn⟩ : ∃ n, n = l.getD k 0 := ⟨_, rfl⟩
          rw [← hn] at hc hq hn20
          have hp := fac_pos n
          obtain ⟨Q', hQ'⟩ : ∃ Q', Q' = mult l * facs (l.drop (k + 1)) := ⟨_, rfl⟩
          have hdiv : Q / fac n = Q' := by
            rw [hq, hQ', Nat.mul_left_comm]
            exact Nat.mul_div_cancel_left _ hp
          have HO := Lib.hid (orders_any n (by have := H20.out; omega) w)
          obtain ⟨G, hG⟩ : ∃ G, G = fac n := ⟨_, rfl⟩
          rw [← hG] at hp hdiv HO
          have hle : Q' ≤ Q := by rw [← hdiv]; exact Nat.div_le_self _ _
          have hdi : (Q : Int) / (G : Int) = (Q' : Int) := by rw [← hdiv]; simp
          have HQ' := Lib.hid hQ'
          clear hQ' hG hn hq hdiv
          go_wp2_with fail
          refine HO.out.mono ?_
          rintro e w1 ⟨rfl, rfl⟩
          clear HO
          go_wp2_with fail
          go_round
          case rel => exact ⟨k + 1, Q', by omega, by go_num, rfl, by omega, HQ'⟩
          case measure => simp [intOf]; omega
        · have hd : l.drop k = [] := List.drop_of_length_le (by omega)
          have HE := Lib.hid (show Q = mult l by rw [HQ.out, hd]; simp [facs])
          clear hd
          go_wp2_with fail
          go_ret
          exact ⟨by rw [HE.out]; rfl, rfl⟩

def InterRankPost (l : List Nat) (ord : List Int) (e : Ending) : Prop :=
  (∃ r : Nat, rankOf l ord = some r ∧ e = .returned (.tuple #[.int .i64 r, .bool true])) ∨ (rankOf l ord = none ∧ e = .returned (.tuple #[.int .i64 0, .bool false]))

set_option maxHeartbeats 1000000 in
set_option maxRecDepth 100000 in
theorem interRank_any (l : List Nat) (ord : List Int) (ao oo : Option Addr) (ca co : Nat) (w : World) (hx : IntsAt .i64 w ao (cast l)) (hn : ao = none → l.length = 0) (h20 : l.sum ≤ 20) (h6 : l.length ≤ 6) (ho : IntsAt .i64 w oo ord) (hol : ord.length ≤ maxLen) :
    Calls Tryd.prog 7 #[.slice ao l.length ca, .slice oo ord.length co] w fun e w' => InterRankPost l ord e ∧ Below w.heap.size w w' := by
  unfold maxLen at hol
  obtain ⟨i0, hi0, hz0, hz1, hz2⟩ := info_parts info3
  have hmb : mult l ≤ 2432902008176640000 := by have := mult_le l; have h2 := fac_mono h20; rw [fac20] at h2; omega
  have HO := Lib.hid ho; clear ho
  have HX := Lib.hid hx; clear hx
  have HN := Lib.hid hn; clear hn
  go_enter Tryd.func7, Tryd.ntmps7
  go_wp2_with (at_builtin; refine wpList_append_any _ rfl _ _ 22 rfl w.heap.size 3 i0 (.int .i64 0) 1 8 Tryd.underlying22 hi0 hz0 hz1 hz2 rfl (by decide) _ 0 _ [] rfl ?c1 ao l.length ca ((cast l).map (Value.int .i64)) rfl (by simp) HN.out ?c2 (ints1 _ _) ?c3 ?c4 ?c5 _ rfl ?_)
  case c1 => exact owns_empty (Nat.le_refl _) (heap_alloc_at _ _ rfl)
  case c2 => exact (HX.out.below (Nat.le_refl _) ((Below.refl _ _).alloc (Nat.le_refl _) _)).news
  case c3 => unfold maxLen; omega
  case c4 => omega
  case c5 => simp
  intro g cap w1 hown hgrow hat hlt
  have hb1 := Below.grown ((Below.refl w.heap.size w).alloc (Nat.le_refl _) (.cells #[] 3)) hgrow (by simp) (by simp)
  have hs1 := hb1.size
  have hown : w1.ownsRow w.heap.size 3 1 (.slice (some ⟨g, 0, none⟩) l.length cap) l.length ((cast l).map (Value.int .i64)) := by simpa [cast, List.map_map] using hown
  try simp only [Nat.zero_add]
  have HOWN := Lib.hid hown
  have HB1 := Lib.hid hb1
  clear hown hb1 hgrow hat hlt
  go_wp2_with fail
  go_loopw [8, 7] (fun i a wr => ∃ (j k : Nat) (m : List Nat), i = .int .i64 j ∧ a = .int .i64 k ∧ j ≤ ord.length ∧ m.length = l.length ∧ m.sum ≤ 20 ∧ k + mult m ≤ mult l ∧ rankOf l ord = (rankOf m (ord.drop j)).map (k + ·) ∧
      wr.ownsRow w.heap.size 3 1 (.slice (some ⟨g, 0, none⟩) l.length cap) l.length ((cast m).map (Value.int .i64)) ∧ Below w.heap.size w wr) (fun i _ _ => ord.length - (intOf i).toNat)
  case atStart => exact ⟨0, 0, l, rfl, rfl, by omega, rfl, h20, by omega, by simp, HOWN.out, HB1.out⟩
  case round =>
    obtain ⟨j, k, m, rfl, rfl, hj, hml, hm20, hkm, hrk, hown, hb⟩ := hrel
    have HRK := Lib.hid hrk; clear hrk
    by_cases hlt : j < ord.length
    · have hox := HO.out.below (Nat.le_refl _) hb
      obtain ⟨b, o, rfl, hc⟩ := hox j hlt
      obtain ⟨x, hx⟩ : ∃ x, x = ord.getD j 0 := ⟨_, rfl⟩
      rw [← hx] at hc
      have hd : ord.drop j = x :: ord.drop (j + 1) := by rw [hx, List.drop_eq_getElem_cons hlt]; simp [hlt]
      rw [hd] at HRK
      clear hd hox
      have HXO := Lib.hid hx; clear hx
      by_cases hx0 : x < 0
      · have hr := rankOf_bad (l := m) (ord.drop (j + 1)) (x := x) (by omega)
        have HR := Lib.hid (show rankOf l ord = none by rw [HRK.out, hr]; rfl)
        clear hr
        go_wp2_with fail
        go_ret2
        exact ⟨.inr ⟨HR.out, rfl⟩, hb⟩
      · obtain ⟨y, rfl⟩ : ∃ y : Nat, x = y := ⟨x.toNat, by omega⟩
        by_cases hxl : l.length ≤ y
        · have hr := rankOf_bad (l := m) (ord.drop (j + 1)) (x := y) (by omega)
          have HR := Lib.hid (show rankOf l ord = none by rw [HRK.out, hr]; rfl)
          clear hr
          go_wp2_with fail
          go_ret2
          exact ⟨.inr ⟨HR.out, rfl⟩, hb⟩
        · have hcy : wr.cell? ⟨g, y, none⟩ = some (.int .i64 (m.getD y 0 : Nat)) := by rw [hown.cellAt y (by omega)]; exact cast_get m y (by omega)
          by_cases hy0 : m.getD y 0 = 0
          · have hr := rankOf_bad (l := m) (ord.drop (j + 1)) (x := y) (by simp only [Int.toNat_natCast]; omega)
            have HR := Lib.hid (show rankOf l ord = none by rw [HRK.out, hr]; rfl)
            clear hr
            rw [hy0] at hcy
            go_wp2_with fail
            go_ret2
            exact ⟨.inr ⟨HR.out, rfl⟩, hb⟩
          · have hr := rankOf_step (ord.drop (j + 1)) (show y < m.length by omega) (show 0 < m.getD y 0 by omega)
            have hup := up_step m y (by omega) (by omega)
            have hls := less_sum m y (by omega) (by omega)
            have HR := Lib.hid (show rankOf l ord = (rankOf (less m y) (ord.drop (j + 1))).map ((k + up m y) + ·) by
              rw [HRK.out, hr, Option.map_map]; congr 1; funext z; simp only [Function.comp]; omega)
            clear hr HRK
            have hmy20 := get_le_sum m y (by omega)
            obtain ⟨my, hmy⟩ : ∃ my, my = m.getD y 0 := ⟨_, rfl⟩
            rw [← hmy] at hmy20 hcy hy0
            have HMY := Lib.hid hmy; clear hmy
            have HCY := Lib.hid hcy
            have HOWN2 := Lib.hid hown; clear hown
            have HB2 := Lib.hid hb; clear hb
            go_wp2_with fail
            clear HCY hcy
            go_loopw [10, 7] (fun i a wr => ∃ ii : Nat, i = .int .i64 ii ∧ a = .int .i64 ((k + up m ii : Nat) : Int) ∧ ii ≤ y ∧ wr.ownsRow w.heap.size 3 1 (.slice (some ⟨g, 0, none⟩) l.length cap) l.length ((cast m).map (Value.int .i64)) ∧ Below w.heap.size w wr) (fun i _ _ => y - (intOf i).toNat)
            case atStart => exact ⟨0, rfl, rfl, by omega, HOWN2.out, HB2.out⟩
            case round =>
              clear HOWN2 HB2
              obtain ⟨ii, rfl, rfl, hii, hown, hb⟩ := hrel
              have hup1 := up_le m ii (by omega)
              by_cases hil : ii < y
              · have hci : wr.cell? ⟨g, ii, none⟩ = some (.int .i64 (m.getD ii 0 : Nat)) := by rw [hown.cellAt ii (by omega)]; exact cast_get m ii (by omega)
                by_cases hi0 : m.getD ii 0 = 0
                · have HZ := Lib.hid (show up m (ii + 1) = up m ii by rw [up, term_zero m ii hi0]; rfl)
                  rw [hi0] at hci
                  clear hi0
                  go_wp2_with fail
                  go_roundw
                  case rel => exact ⟨ii + 1, by go_num, by rw [HZ.out], by omega, hown, hb⟩
                  case measure => simp [intOf]; omega
                · have HZ := Lib.hid (show up m (ii + 1) = up m ii + mult (less m ii) by rw [up, term_pos m ii (by omega)])
                  have hupi := up_step m ii (by omega) (by omega)
                  have hlsi := less_sum m ii (by omega) (by omega)
                  have hmi20 := get_le_sum m ii (by omega)
                  have hW := with_any (cast m) (some ⟨g, 0, none⟩) cap ii ((m.getD ii 0 : Nat) - 1) wr (IntsAt.of_owns hown) (by simp; omega) (by simp; omega)
                  rw [show (cast m).length = l.length by simp [hml], show (cast m).set ii ((m.getD ii 0 : Nat) - 1) = cast (less m ii) by unfold less cast; rw [List.map_set]; congr 1; omega] at hW
                  have HW := Lib.hid hW; clear hW
                  have hq := fun (a : Option Addr) (c : Nat) (w' : World) (h : IntsAt .i64 w' a (cast (less m ii))) => interCount_any (less m ii) a c w' h (by omega) (by rw [less_length]; omega)
                  rw [less_length, hml] at hq
                  obtain ⟨mi, hmi⟩ : ∃ mi, mi = m.getD ii 0 := ⟨_, rfl⟩
                  rw [← hmi] at hmi20 hi0 hci HW
                  obtain ⟨M, hM⟩ : ∃ M, M = mult (less m ii) := ⟨_, rfl⟩
                  rw [← hM] at HZ hupi hq
                  have HC := Lib.hid hq
                  have HB3 := Lib.hid hb
                  have HOWN3 := Lib.hid hown
                  clear hq hown hb hmi hM hlsi
                  go_wp2_with fail
                  refine HW.out.mono ?_
                  rintro e w3 ⟨g3, c3, rfl, hi3, hb3⟩
                  have HI3 := Lib.hid hi3
                  have HOWN4 := Lib.hid (owns_below HOWN3.out hb3)
                  have HB4 := Lib.hid (HB3.out.trans (hb3.mono HB3.out.size))
                  clear hi3 hb3 HOWN3 HB3 HW
                  go_wp2_with fail
                  refine (HC.out _ _ _ HI3.out).mono ?_
                  rintro e w4 ⟨rfl, rfl⟩
                  go_wp2_with fail
                  go_roundw
                  case rel => exact ⟨ii + 1, by go_num, by rw [HZ.out]; go_num, by omega, HOWN4.out, HB4.out⟩
                  case measure => simp [intOf]; omega
              · have hie : ii = y := by omega
                subst hie
                have hcy : wr.cell? ⟨g, ii, none⟩ = some (.int .i64 (m.getD ii 0 : Nat)) := by rw [hown.cellAt ii (by omega)]; exact cast_get m ii (by omega)
                have hgl := (hown.lt g rfl).1
                have hst := (hown.stored ii (.int .i64 ((m.getD ii 0 : Nat) - 1))).1
                rw [cast_less m ii (by have := HMY.out; omega)] at hst
                have hfz := hown.frozenAt ii
                have hb2 := hb.setCell (p := ⟨g, ii, none⟩) hgl (.int .i64 ((m.getD ii 0 : Nat) - 1))
                rw [← HMY.out] at hcy hst hb2
                have HST := Lib.hid hst
                have HB2 := Lib.hid hb2
                clear hst hb2 hown hb
                go_wp2_with fail
                go_roundw
                case rel => exact ⟨j + 1, k + up m ii, less m ii, by go_num, rfl, by omega, by rw [less_length]; omega, by omega, by omega, HR.out, HST.out, HB2.out⟩
                case measure => simp [intOf]; omega
    · have hje : j = ord.length := by omega
      subst hje
      rw [List.drop_length] at HRK
      have hrn : rankOf m [] = if m.sum = 0 then some 0 else none := rfl
      rw [hrn] at HRK
      have HB2 := Lib.hid hb
      have HOWN2 := Lib.hid hown
      clear hrn hb hown
      obtain ⟨w4, hw4⟩ : ∃ w4, w4 = wr := ⟨_, rfl⟩
      subst hw4
      go_wp2_with fail
      go_loop [11] (fun i => ∃ ii : Nat, i = .int .i64 ii ∧ ii ≤ l.length ∧ (m.take ii).sum = 0) (fun i => l.length - (intOf i).toNat)
      case atStart => exact ⟨0, rfl, by omega, by simp⟩
      case round =>
        obtain ⟨ii, rfl, hii, hz⟩ := hrel
        by_cases hil : ii < l.length
        · have hci : w4.cell? ⟨g, ii, none⟩ = some (.int .i64 (m.getD ii 0 : Nat)) := by rw [HOWN2.out.cellAt ii (by omega)]; exact cast_get m ii (by omega)
          have hgs := get_le_sum m ii (by omega)
          have hts : (m.take (ii + 1)).sum = (m.take ii).sum + m.getD ii 0 := by
            rw [List.take_succ_eq_append_getElem (by omega), List.sum_append]; simp [show ii < m.length by omega]
          obtain ⟨mi, hmi⟩ : ∃ mi, mi = m.getD ii 0 := ⟨_, rfl⟩
          rw [← hmi] at hci hgs hts
          rw [hz] at hts
          have HTS := Lib.hid hts
          clear hmi hts hz
          by_cases h0 : 0 < mi
          · have HR := Lib.hid (show rankOf l ord = none by rw [HRK.out, if_neg (by omega)]; rfl)
            go_wp2_with fail
            go_ret2
            exact ⟨.inr ⟨HR.out, rfl⟩, HB2.out⟩
          · go_wp2_with fail
            go_round
            case rel => exact ⟨ii + 1, by go_num, by omega, by rw [HTS.out]; omega⟩
            case measure => simp [intOf]; omega
        · rw [List.take_of_length_le (by omega)] at hz
          have HR := Lib.hid (show rankOf l ord = some k by rw [HRK.out, if_pos hz]; rfl)
          clear hz
          go_wp2_with fail
          go_ret2
          exact ⟨.inl ⟨k, HR.out, rfl⟩, HB2.out⟩
end Go.Proofs.YtkdfikjfbbnekaaDoor
