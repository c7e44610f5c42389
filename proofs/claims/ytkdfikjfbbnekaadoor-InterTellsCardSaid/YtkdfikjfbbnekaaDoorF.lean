/- inter.Rank. -/
import Derived.Test.YtkdfikjfbbnekaaDoorE
namespace Go.Proofs.YtkdfikjfbbnekaaDoor
open Go.RowKit Go.Mine Go.Mine.Inter

theorem toNat_map (l : List Nat) : (l.map fun n : Nat => (n : Int)).map Int.toNat = l := by
  rw [List.map_map]
  exact List.map_id'' (fun _ => rfl) _
/-- Numbers as ints. -/
abbrev cast (l : List Nat) : List Int := l.map fun n : Nat => (n : Int)
theorem cast_less (m : List Nat) (x : Nat) (hp : 0 < m.getD x 0) : ((cast m).map (Value.int .i64)).set x (.int .i64 ((m.getD x 0 : Nat) - 1)) = (cast (less m x)).map (Value.int .i64) := by
  unfold less cast
  rw [List.map_set, List.map_set]
  congr 2
  omega
theorem cast_more (m : List Nat) (x : Nat) (hx : x < m.length) (hp : 0 < m.getD x 0) : ((cast (less m x)).map (Value.int .i64)).set x (.int .i64 (m.getD x 0 : Nat)) = (cast m).map (Value.int .i64) := by
  have h := less_get m x x hx hp
  rw [if_pos rfl] at h
  have h2 := less_back m x hx hp
  rw [h] at h2
  calc _ = (cast ((less m x).set x (m.getD x 0))).map (Value.int .i64) := by unfold cast; rw [List.map_set, List.map_set]
    _ = _ := by rw [h2]
theorem cast_get (m : List Nat) (x : Nat) (hx : x < m.length) : ((cast m).map (Value.int .i64))[x]? = some (.int .i64 (m.getD x 0 : Nat)) := by
  simp [hx]
theorem cast_get' (m : List Nat) (x : Nat) (hx : x < m.length) : (cast m).getD x 0 = (m.getD x 0 : Nat) := by
  simp [hx]
def RankPost (l : List Nat) (ord : List Int) (e : Ending) : Prop :=
  (∃ r : Nat, rankOf l ord = some r ∧ e = .returned (.tuple #[.int .i64 r, .nilIface])) ∨ (rankOf l ord = none ∧ e = .returned (.tuple #[.int .i64 0, .iface 24 (.int .i64 3)]))
theorem max_sum {m : List Nat} {M : Int} (hM : M ∈ cast m ++ [0]) (hall : ∀ x ∈ cast m ++ [0], x ≤ M) : 0 < M ↔ 0 < m.sum := by
  constructor
  · intro h
    rcases List.mem_append.1 hM with h1 | h1
    · obtain ⟨n, hn, rfl⟩ := List.mem_map.1 h1
      obtain ⟨i, hi, rfl⟩ := List.getElem_of_mem hn
      have := get_le_sum m i hi
      simp [hi] at this
      omega
    · simp at h1; omega
  · intro h
    have : ∃ n ∈ m, 0 < n := by
      false_or_by_contra
      rename_i hno
      have hz : ∀ m : List Nat, (∀ n ∈ m, n = 0) → m.sum = 0 := by
        intro m
        induction m with
        | nil => intro _; rfl
        | cons a m ih => intro h; rw [List.sum_cons, h a (by simp), ih (fun n hn => h n (by simp [hn]))]
      have := hz m (fun n hn => by rcases Nat.eq_zero_or_pos n with h | h; exact h; exact absurd ⟨n, hn, h⟩ hno)
      omega
    obtain ⟨n, hn, hp⟩ := this
    have := hall n (List.mem_append.2 (.inl (List.mem_map.2 ⟨n, hn, rfl⟩)))
    omega
theorem slotOf {w : World} {B n : Nat} {ao : Option Addr} {cap : Nat} {xs : List Value} (h : w.ownsRow B 3 1 (.slice ao n cap) n xs) (h0 : 0 < n) : ∃ g, ao = some ⟨g, 0, none⟩ := by
  rcases h.2 with ⟨h1, h2⟩ | ⟨g, _, _, h1, _⟩
  · omega
  · simp only [Value.slice.injEq] at h1; exact ⟨g, h1.1⟩

set_option maxHeartbeats 1000000 in
set_option maxRecDepth 100000 in
theorem Rank_ok (l : List Nat) (ord : List Int) (ao oo : Option Addr) (ca co : Nat) (w : World) (hx : IntsAt .i64 w ao (cast l)) (hn : ao = none → l.length = 0) (hok : ok (cast l)) (ho : IntsAt .i64 w oo ord) (hol : ord.length ≤ maxLen) :
    Calls Tryd.prog 11 #[.slice ao l.length ca, .slice oo ord.length co] w fun e w' => RankPost l ord e ∧ Below w.heap.size w w' := by
  unfold maxLen at hol
  obtain ⟨i0, hi0, hz0, hz1, hz2⟩ := info_parts info3
  have h6 : l.length ≤ 6 := by simpa using hok.1
  have h20 : l.sum ≤ 20 := by have := (map_toNat _ hok.2.1).2; have h3 := hok.2.2; rw [toNat_map] at this; omega
  have hmb : mult l ≤ 2432902008176640000 := by have := mult_le l; have h2 := fac_mono h20; rw [fac20] at h2; omega
  have hk := check_any (cast l) ao ca w hx (by simp; unfold maxLen; omega)
  have hcl := clone_own ao ca (cast l) w hx (by simpa using hn) (by simp; omega)
  rw [List.length_map] at hk hcl
  have HK := Lib.hid hk; clear hk
  have HCL := Lib.hid hcl; clear hcl
  have HOK := Lib.hid hok; clear hok
  have HO := Lib.hid ho; clear ho
  clear hx hn
  go_enter Tryd.func11, Tryd.ntmps11
  go_wp2_with fail
  refine HK.out.mono ?_
  rintro e w1 ⟨hp, rfl⟩
  rcases hp with ⟨_, rfl⟩ | ⟨h, _⟩
  · clear HK
    go_wp2_with fail
    refine HCL.out.mono ?_
    clear HCL
    rintro e w1 ⟨v, rfl, hown, hb1⟩
    obtain ⟨va, vc, rfl⟩ := owns_shape hown
    have hs1 := hb1.size
    have HOWN := Lib.hid hown
    have HB1 := Lib.hid hb1
    clear hown hb1
    go_wp2_with fail
    go_loopw [21, 8] (fun i a wr => ∃ (j k : Nat) (m : List Nat), i = .int .i64 j ∧ a = .int .i64 k ∧ j ≤ ord.length ∧ m.length = l.length ∧ m.sum ≤ 20 ∧ k + mult m ≤ mult l ∧ rankOf l ord = (rankOf m (ord.drop j)).map (k + ·) ∧
      wr.ownsRow w.heap.size 3 1 (.slice va l.length vc) l.length ((cast m).map (Value.int .i64)) ∧ Below w.heap.size w wr) (fun i _ _ => ord.length - (intOf i).toNat)
    case atStart => exact ⟨0, 0, l, rfl, rfl, by omega, rfl, h20, by omega, by simp, HOWN.out, HB1.out⟩
    case round =>
      obtain ⟨j, k, m, rfl, rfl, hj, hml, hm20, hkm, hrk, hown, hb⟩ := hrel
      have HRK := Lib.hid hrk; clear hrk
      by_cases hlt : j < ord.length
      · have hox := HO.out.below (Nat.le_refl _) hb
        obtain ⟨b, o, rfl, hc⟩ := hox j hlt
        obtain ⟨x, hx⟩ : ∃ x, x = ord.getD j 0 := ⟨_, rfl⟩
        rw [← hx] at hc
        have hd : ord.drop j = x :: ord.drop (j + 1) := by rw [hx, List.drop_eq_getElem_cons hlt]; simp [hlt]
        rw [hd] at HRK
        clear hd hox
        have HX := Lib.hid hx; clear hx
        by_cases hx0 : x < 0
        · have hr := rankOf_bad (l := m) (ord.drop (j + 1)) (x := x) (by omega)
          have HR := Lib.hid (show rankOf l ord = none by rw [HRK.out, hr]; rfl)
          clear hr
          go_wp2_with fail
          go_ret2
          exact ⟨.inr ⟨HR.out, rfl⟩, hb⟩
        · obtain ⟨y, rfl⟩ : ∃ y : Nat, x = y := ⟨x.toNat, by omega⟩
          by_cases hxl : l.length ≤ y
          · have hr := rankOf_bad (l := m) (ord.drop (j + 1)) (x := y) (by omega)
            have HR := Lib.hid (show rankOf l ord = none by rw [HRK.out, hr]; rfl)
            clear hr
            go_wp2_with fail
            go_ret2
            exact ⟨.inr ⟨HR.out, rfl⟩, hb⟩
          · obtain ⟨g, rfl⟩ := slotOf hown (by omega)
            have hcy : wr.cell? ⟨g, y, none⟩ = some (.int .i64 (m.getD y 0 : Nat)) := by rw [hown.cellAt y (by omega)]; exact cast_get m y (by omega)
            by_cases hy0 : m.getD y 0 = 0
            · have hr := rankOf_bad (l := m) (ord.drop (j + 1)) (x := y) (by simp only [Int.toNat_natCast]; omega)
              have HR := Lib.hid (show rankOf l ord = none by rw [HRK.out, hr]; rfl)
              clear hr
              rw [hy0] at hcy
              go_wp2_with fail
              go_ret2
              exact ⟨.inr ⟨HR.out, rfl⟩, hb⟩
            · have hr := rankOf_step (ord.drop (j + 1)) (show y < m.length by omega) (show 0 < m.getD y 0 by omega)
              have hup := up_step m y (by omega) (by omega)
              have hls := less_sum m y (by omega) (by omega)
              have HR := Lib.hid (show rankOf l ord = (rankOf (less m y) (ord.drop (j + 1))).map ((k + up m y) + ·) by
                rw [HRK.out, hr, Option.map_map]; congr 1; funext z; simp only [Function.comp]; omega)
              clear hr HRK
              have hmy20 := get_le_sum m y (by omega)
              obtain ⟨my, hmy⟩ : ∃ my, my = m.getD y 0 := ⟨_, rfl⟩
              rw [← hmy] at hmy20 hcy hy0
              have HMY := Lib.hid hmy; clear hmy
              have HCY := Lib.hid hcy
              have HOWN2 := Lib.hid hown; clear hown
              have HB2 := Lib.hid hb; clear hb
              go_wp2_with fail
              clear HCY hcy
              go_loopw [42, 8] (fun i a wr => ∃ ii : Nat, i = .int .i64 ii ∧ a = .int .i64 ((k + up m ii : Nat) : Int) ∧ ii ≤ y ∧ wr.ownsRow w.heap.size 3 1 (.slice (some ⟨g, 0, none⟩) l.length vc) l.length ((cast m).map (Value.int .i64)) ∧ Below w.heap.size w wr) (fun i _ _ => y - (intOf i).toNat)
              case atStart => exact ⟨0, rfl, rfl, by omega, HOWN2.out, HB2.out⟩
              case round =>
                clear HOWN2 HB2
                obtain ⟨ii, rfl, rfl, hii, hown, hb⟩ := hrel
                have hup1 := up_le m ii (by omega)
                by_cases hil : ii < y
                · have hci : wr.cell? ⟨g, ii, none⟩ = some (.int .i64 (m.getD ii 0 : Nat)) := by rw [hown.cellAt ii (by omega)]; exact cast_get m ii (by omega)
                  have hgl := (hown.lt g rfl).1
                  by_cases hi0 : m.getD ii 0 = 0
                  · have HZ := Lib.hid (show up m (ii + 1) = up m ii by rw [up, term_zero m ii hi0]; rfl)
                    rw [hi0] at hci
                    clear hi0
                    go_wp2_with fail
                    go_roundw
                    case rel => exact ⟨ii + 1, by go_num, by rw [HZ.out], by omega, hown, hb⟩
                    case measure => simp [intOf]; omega
                  · have HZ := Lib.hid (show up m (ii + 1) = up m ii + mult (less m ii) by rw [up, term_pos m ii (by omega)])
                    have hupi := up_step m ii (by omega) (by omega)
                    have hlsi := less_sum m ii (by omega) (by omega)
                    have hst := (hown.stored ii (.int .i64 ((m.getD ii 0 : Nat) - 1))).1
                    rw [cast_less m ii (by omega)] at hst
                    have hfz := hown.frozenAt ii
                    have hfz2 := hst.frozenAt ii
                    have hb2 := hb.setCell (p := ⟨g, ii, none⟩) hgl (.int .i64 ((m.getD ii 0 : Nat) - 1))
                    have hcnt := count_any (less m ii) (some ⟨g, 0, none⟩) vc _ (IntsAt.of_owns hst) (by omega) (by rw [less_length]; omega)
                    rw [less_length, hml] at hcnt
                    have hst2 := (hst.stored ii (.int .i64 (m.getD ii 0 : Nat))).1
                    rw [cast_more m ii (by omega) (by omega)] at hst2
                    have hb3 := hb2.setCell (p := ⟨g, ii, none⟩) hgl (.int .i64 (m.getD ii 0 : Nat))
                    have hc2 : (wr.setCell ⟨g, ii, none⟩ (.int .i64 ((m.getD ii 0 : Nat) - 1))).cell? ⟨g, ii, none⟩ = some (.int .i64 ((m.getD ii 0 : Nat) - 1)) := by
                      rw [hst.cellAt ii (by omega), cast_get _ ii (by rw [less_length]; omega)]
                      have h := less_get m ii ii (by omega) (by omega)
                      rw [if_pos rfl] at h
                      congr 2
                      omega
                    have hmi20 := get_le_sum m ii (by omega)
                    obtain ⟨mi, hmi⟩ : ∃ mi, mi = m.getD ii 0 := ⟨_, rfl⟩
                    rw [← hmi] at hmi20 hi0 hci hcnt hc2 hst2 hb3
                    obtain ⟨M, hM⟩ : ∃ M, M = mult (less m ii) := ⟨_, rfl⟩
                    rw [← hM] at HZ hupi hcnt
                    have HC := Lib.hid hcnt
                    have HS2 := Lib.hid hst2
                    have HB3 := Lib.hid hb3
                    clear hcnt hst2 hb3 hst hb2 hown hb hmi hM hlsi
                    go_wp2_with fail
                    refine HC.out.mono ?_
                    rintro e w3 ⟨rfl, rfl⟩
                    go_wp2_with fail
                    go_roundw
                    case rel => exact ⟨ii + 1, by go_num, by rw [HZ.out]; go_num, by omega, HS2.out, HB3.out⟩
                    case measure => simp [intOf]; omega
                · have hie : ii = y := by omega
                  subst hie
                  have hcy : wr.cell? ⟨g, ii, none⟩ = some (.int .i64 (m.getD ii 0 : Nat)) := by rw [hown.cellAt ii (by omega)]; exact cast_get m ii (by omega)
                  have hgl := (hown.lt g rfl).1
                  have hst := (hown.stored ii (.int .i64 ((m.getD ii 0 : Nat) - 1))).1
                  rw [cast_less m ii (by have := HMY.out; omega)] at hst
                  have hfz := hown.frozenAt ii
                  have hb2 := hb.setCell (p := ⟨g, ii, none⟩) hgl (.int .i64 ((m.getD ii 0 : Nat) - 1))
                  rw [← HMY.out] at hcy hst hb2
                  have HST := Lib.hid hst
                  have HB2 := Lib.hid hb2
                  clear hst hb2 hown hb
                  go_wp2_with fail
                  go_roundw
                  case rel => exact ⟨j + 1, k + up m ii, less m ii, by go_num, rfl, by omega, by rw [less_length]; omega, by omega, by omega, HR.out, HST.out, HB2.out⟩
                  case measure => simp [intOf]; omega
      · have hje : j = ord.length := by omega
        subst hje
        rw [List.drop_length] at HRK
        have HOWN2 := Lib.hid hown
        have HB2 := Lib.hid hb
        have hbs := hb.size
        have hrn : rankOf m [] = if m.sum = 0 then some 0 else none := rfl
        rw [hrn] at HRK
        clear hrn
        go_wp2_with (at_builtin; refine wpList_push _ rfl _ _ 22 rfl w.heap.size 3 i0 (.int .i64 0) 1 8 Tryd.underlying22 hi0 hz0 hz1 hz2 rfl (by decide) _ _ _ rfl (hown.alloc _) ⟨wr.heap.size, 0, none⟩ 1 [.int .i64 0] rfl rfl (cell_one_new _ _ _) (one1 _ _) ?c3 ?c4 ?c5 ?_)
        case c3 => unfold maxLen; omega
        case c4 => omega
        case c5 => simp; omega
        intro g2 cap2 w4 hown4 hg4
        have hb4 := (hb.alloc (by omega) (.cells #[.int .i64 0] 3)).grown hg4 (by simp; omega) (fun q hq => by have := (hown.lt q hq).1; omega)
        have hown4 : w4.ownsRow w.heap.size 3 1 (.slice (some ⟨g2, 0, none⟩) (l.length + 1) cap2) (l.length + 1) ((cast m ++ [0]).map (Value.int .i64)) := by simpa using hown4
        have hmx := max_any (cast m ++ [0]) (some ⟨g2, 0, none⟩) cap2 w4 (IntsAt.of_owns hown4) (by simp) (by simp; unfold maxLen; omega)
        rw [show (cast m ++ [(0 : Int)]).length = l.length + 1 by simp [hml]] at hmx
        have HMX := Lib.hid hmx
        have HB4 := Lib.hid hb4
        clear hmx hb4 hown4 hg4 hown hb HOWN2 HB2
        go_wp2_with fail
        refine HMX.out.mono ?_
        rintro e w5 ⟨⟨M, rfl, hM, hall⟩, rfl⟩
        have hms := max_sum hM hall
        clear hM hall HMX
        by_cases h0 : 0 < M
        · have HR := Lib.hid (show rankOf l ord = none by rw [HRK.out, if_neg (by omega)]; rfl)
          go_wp2_with fail
          go_ret2
          exact ⟨.inr ⟨HR.out, rfl⟩, HB4.out⟩
        · have HR := Lib.hid (show rankOf l ord = some k by rw [HRK.out, if_pos (by omega)]; rfl)
          go_wp2_with fail
          go_ret2
          exact ⟨.inl ⟨k, HR.out, rfl⟩, HB4.out⟩
  · exact absurd HOK.out h
end Go.Proofs.YtkdfikjfbbnekaaDoor
