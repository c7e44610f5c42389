/- CondNot's walk. -/
import Derived.Test.YtpchdclgkdoajaaDoorCond4
import Derived.Test.YtpchdclgkdoajaaDoorMore
import Derived.Test.YtpchdclgkdoajaaDoorTold
namespace Go.Proofs.YtpchdclgkdoajaaDoor
open Go.RowKit Go.Mine Go.Mine.Cond

/-- An error's number. -/
def Num (x : Value) (c : Int) : Prop := (x = .nilIface ∧ c = 0) ∨ x = .iface 33 (.int .i64 c)
theorem told_two (x y : Value) (c : Int) (hx : Num x c) (hy : Num y c) (w : World) (hg : Laid w) :
    Calls Tryd.prog 8 #[x, y] w fun e w' => e = .returned (.bool true) ∧ Below w.heap.size w w' := by
  have H := told_any x c hx w hg
  have HG := Lib.hid hg
  have HY := Lib.hid hy
  clear hg hy hx
  go_enter Tryd.func8, Tryd.ntmps8
  go_wp2_with fail
  refine H.mono ?_
  clear H
  rintro e w1 ⟨rfl, hb⟩
  have H2 := told_any y c HY.out w1 (HG.out.below hb)
  have HB := Lib.hid hb
  clear hb
  go_wp2_with fail
  refine H2.mono ?_
  clear H2
  rintro e w2 ⟨rfl, hb⟩
  have HB2 := Lib.hid (HB.out.trans (hb.mono HB.out.size))
  clear hb
  go_wp2_with fail
  go_ret
  exact ⟨by simp, HB2.out⟩

theorem pair_form {n i : Int} {fs : List Bool} {e : Ending} (h : PairPost n fs i e) : ∃ (a b : Int) (ev : Value) (c : Int), e = .returned (.tuple #[.int .i64 a, .int .i64 b, ev]) ∧ Num ev c := by
  rcases h with ⟨_, rfl⟩ | ⟨_, _, rfl⟩ | ⟨_, _, _, rfl⟩ | ⟨_, _, t, _, rfl⟩
  · exact ⟨_, _, _, _, rfl, .inr rfl⟩
  · exact ⟨_, _, _, _, rfl, .inr rfl⟩
  · exact ⟨_, _, _, _, rfl, .inr rfl⟩
  · exact ⟨_, _, _, 0, rfl, .inl ⟨rfl, rfl⟩⟩
theorem pair_uniq {n i : Int} {fs : List Bool} {e e' : Ending} (h : PairPost n fs i e) (h' : PairPost n fs i e') : e = e' := by
  rcases h with ⟨h1, rfl⟩ | ⟨h1, h2, rfl⟩ | ⟨h1, h2, h3, rfl⟩ | ⟨h1, h2, t, h3, rfl⟩ <;> rcases h' with ⟨g1, rfl⟩ | ⟨g1, g2, rfl⟩ | ⟨g1, g2, g3, rfl⟩ | ⟨g1, g2, u, g3, rfl⟩
  all_goals first
    | rfl
    | exact absurd g1 h1
    | exact absurd h1 g1
    | exact absurd g2 h2
    | exact absurd h2 g2
    | exact absurd g3.mat h3
    | exact absurd h3.mat g3
    | (obtain rfl := h3.uniq g3; rfl)
theorem pair_same {n i : Int} {fs : List Bool} {e : Ending} (h : PairPost n fs i e) : PairPost n (fs.map fun b => !b) i e := by
  unfold PairPost at h ⊢
  rw [List.length_map]
  rcases h with h | h | ⟨⟨m, rfl, h1, h6, hl⟩, h2, h3, h4⟩ | ⟨⟨m, rfl, h1, h6, hl⟩, h2, t, h3, h4⟩
  · exact .inl h
  · exact .inr (.inl h)
  · exact .inr (.inr (.inl ⟨⟨m, rfl, h1, h6, hl⟩, h2, fun hm => h3 ((mat_not h6 hl (by omega)).1 hm), h4⟩))
  · exact .inr (.inr (.inr ⟨⟨m, rfl, h1, h6, hl⟩, h2, t, (first_not h6 hl (by omega)).2 h3, h4⟩))

theorem covers_form {n : Int} {fs : List Bool} {xs : List Int} {e : Ending} (h : CoversPost n fs xs e) : ∃ (x : Bool) (ev : Value) (c : Int), e = .returned (.tuple #[.bool x, ev]) ∧ Num ev c := by
  rcases h with ⟨_, rfl⟩ | ⟨_, _, rfl⟩ | ⟨_, _, b, rfl, _⟩
  · exact ⟨_, _, _, rfl, .inr rfl⟩
  · exact ⟨_, _, _, rfl, .inr rfl⟩
  · exact ⟨_, _, 0, rfl, .inl ⟨rfl, rfl⟩⟩
theorem covers_uniq {n : Int} {fs : List Bool} {xs : List Int} {e e' : Ending} (h : CoversPost n fs xs e) (h' : CoversPost n fs xs e') : e = e' := by
  rcases h with ⟨h1, rfl⟩ | ⟨h1, h2, rfl⟩ | ⟨h1, h2, b, rfl, h3⟩ <;> rcases h' with ⟨g1, rfl⟩ | ⟨g1, g2, rfl⟩ | ⟨g1, g2, c, rfl, g3⟩
  all_goals first
    | rfl
    | exact absurd g1 h1
    | exact absurd h1 g1
    | exact absurd g2 h2
    | exact absurd h2 g2
    | (obtain rfl : b = c := by rw [Bool.eq_iff_iff, h3, g3]
       rfl)
theorem covers_same {n : Int} {fs : List Bool} {xs : List Int} {e : Ending} (h : CoversPost n fs xs e) : CoversPost n (fs.map fun b => !b) xs e := by
  unfold CoversPost at h ⊢
  rw [List.length_map]
  rcases h with h | h | ⟨⟨m, rfl, h1, h6, hl⟩, h2, b, h3, h4⟩
  · exact .inl h
  · exact .inr (.inl h)
  · refine .inr (.inr ⟨⟨m, rfl, h1, h6, hl⟩, h2, b, h3, ?_⟩)
    rw [Int.toNat_natCast] at h4 ⊢
    exact h4.trans (cov_not h6 hl h2).symm

theorem bool1 (v : Bool) : ∀ u ∈ [Value.bool v], u.oneCell' = true := by intro u hu; simp at hu; subst hu; rfl
/-- The cells of the first k, turned. -/
def notV (fs : List Bool) (k : Nat) : List Value := ((fs.take k).map fun b => !b).map Value.bool
theorem not_succ {fs : List Bool} {k : Nat} (hk : k < fs.length) {v : Bool} (hv : v = fs.getD k false) : notV fs k ++ [.bool (!v)] = notV fs (k + 1) := by
  unfold notV
  rw [List.take_succ_eq_append_getElem hk, List.map_append, List.map_append]
  congr 1
  rw [hv]
  simp [hk]
theorem infoBool : (Tryd.prog.info? 4).map (fun i => (i.zero, i.size, i.bytes)) = some (some (.bool false), 1, 1) := by kernel_rfl

set_option maxHeartbeats 4000000 in
set_option maxRecDepth 100000 in
theorem condNot_walk (n i : Int) (fs : List Bool) (xs : List Int) (fo to : Option Addr) (fc tc : Nat) (W : World) (hg : Laid W) (hf : BoolsAt W fo fs) (hx : IntsAt .i64 W to xs) (hfl : fs.length ≤ 140737488351232) (hxl : xs.length ≤ maxLen) :
    Calls Tryd.prog 3 #[.int .i64 n, .slice fo fs.length fc, .int .i64 i, .slice to xs.length tc] W fun e w' => e = .returned (.bool true) ∧ Below W.heap.size W w' := by
  obtain ⟨i0, hi0, hz0, hz1, hz2⟩ := info_parts infoBool
  have HG := Lib.hid hg
  have HF := Lib.hid (show ∀ w, Below W.heap.size W w → BoolsAt w fo fs from fun w hb => hf.below (Nat.le_refl _) hb)
  have HX := Lib.hid (show ∀ w, Below W.heap.size W w → IntsAt .i64 w to xs from fun w hb => hx.below (Nat.le_refl _) hb)
  have HXL := Lib.hid hxl
  clear hg hf hx hxl
  go_enter Tryd.func3, Tryd.ntmps3
  go_wp2_with fail
  refine (decided_true W).mono ?_
  rintro e w1 ⟨rfl, hb1⟩
  have HB1 := Lib.hid hb1
  clear hb1
  go_wp2_with fail
  go_loopw [10, 11] (fun v kv wr => ∃ k : Nat, kv = .int .i64 k ∧ k ≤ fs.length ∧ wr.ownsRow W.heap.size 4 1 v k (notV fs k) ∧ Below W.heap.size W wr) (fun _ kv _ => fs.length - (intOf kv).toNat)
  case atStart => exact ⟨0, rfl, by omega, by simpa [notV] using World.ownsRow_nil _ _ _ _, HB1.out⟩
  case round =>
    obtain ⟨k, rfl, hk, ho, hb⟩ := hrel
    have hsz := hb.size
    by_cases hlt : k < fs.length
    · obtain ⟨b, o, rfl, hc⟩ := HF.out _ hb k hlt
      have hns := fun v hv => not_succ hlt (v := v) hv
      obtain ⟨v, hv⟩ : ∃ v, v = fs.getD k false := ⟨_, rfl⟩
      have HNS := Lib.hid (hns v hv)
      rw [← hv] at hc
      have HO := Lib.hid ho
      have HB := Lib.hid hb
      clear hns hv ho hb
      go_wp2_with (at_builtin; refine wpList_push _ rfl _ _ 22 rfl W.heap.size 4 i0 (.bool false) 1 1 Tryd.underlying22 hi0 hz0 hz1 hz2 rfl (by decide) _ _ _ rfl (HO.out.alloc _) ⟨wr.heap.size, 0, none⟩ 1 [.bool (!v)] rfl rfl (cell_one_new _ _ _) (bool1 _) (by unfold maxLen; omega) (by omega) (by simp; omega) ?_)
      intro g cap w7 ho7 hg7
      have hb7 := (HB.out.alloc hsz (.cells #[.bool (!v)] 4)).grown hg7 (by simp; omega) (fun k hk => (HO.out.lt k hk).1)
      rw [HNS.out] at ho7
      have HO7 := Lib.hid ho7
      have HB7 := Lib.hid hb7
      clear ho7 hb7 hg7
      go_wp2_with fail
      go_roundw
      case rel => exact ⟨k + 1, by go_num, by omega, HO7.out, HB7.out⟩
      case measure => simp [intOf]; omega
    · have hke : k = fs.length := by omega
      unfold notV at ho
      rw [hke, List.take_length] at ho
      obtain ⟨go, gc, rfl⟩ := owns_shape ho
      have hgs := BoolsAt.of_owns ho
      obtain ⟨gs, hgse⟩ : ∃ gs, gs = fs.map fun b => !b := ⟨_, rfl⟩
      have hgl : gs.length = fs.length := by rw [hgse, List.length_map]
      rw [← hgse] at hgs
      have HGSE := Lib.hid hgse
      have HGS := Lib.hid hgs
      have HB := Lib.hid hb
      subst hke
      clear ho hgse hgs hb hlt hk
      have HP1 := Lib.hid (pair_any n i fs fo fc wr (HF.out _ HB.out))
      have hp2 := fun q => pair_any n i gs go gc (wr.drewN q) (HGS.out.drewN q)
      rw [hgl] at hp2
      have HP2 := Lib.hid hp2
      clear hp2
      go_wp2_with fail
      refine HP1.out.mono ?_
      clear HP1
      rintro e w2 ⟨hp, q, rfl⟩
      obtain ⟨a, b, ev, c, he, hev⟩ := pair_form hp
      subst he
      have HP := Lib.hid hp
      have HEV := Lib.hid hev
      clear hp hev
      go_wp2_with fail
      refine (HP2.out q).mono ?_
      clear HP2
      rintro e w2 ⟨hp, q2, rfl⟩
      rw [HGSE.out] at hp
      have he := pair_uniq (pair_same HP.out) hp
      subst he
      clear hp HP
      have hb3 : Below W.heap.size W (wr.drewN (q + q2)) := below_drewN HB.out (q + q2)
      have HB3 := Lib.hid hb3
      have HC1 := Lib.hid (coversX_any n fs xs fo to fc tc _ (HF.out _ hb3) (HX.out _ hb3) HXL.out)
      have HGS3 := Lib.hid (HGS.out.drewN (q + q2))
      clear hb3
      go_wp2_with fail
      refine HC1.out.mono ?_
      clear HC1
      rintro e w4 ⟨hp, hb4⟩
      obtain ⟨x, ev3, c3, he, hev3⟩ := covers_form hp
      subst he
      have HP := Lib.hid hp
      have HEV3 := Lib.hid hev3
      have hb5 := HB3.out.trans (hb4.mono HB3.out.size)
      have HB5 := Lib.hid hb5
      have hc2 := coversX_any n gs xs go to gc tc w4 (HGS3.out.below (Nat.le_refl _) hb4) (HX.out _ hb5) HXL.out
      rw [hgl] at hc2
      have HC2 := Lib.hid hc2
      clear hp hev3 hb4 hb5 hc2 HB3 HGS3 HGS
      go_wp2_with fail
      refine HC2.out.mono ?_
      clear HC2
      rintro e w5 ⟨hp, hb6⟩
      rw [HGSE.out] at hp
      have he := covers_uniq (covers_same HP.out) hp
      subst he
      have HB6 := Lib.hid (HB5.out.trans (hb6.mono HB5.out.size))
      clear hp HP hb6 HB5 HGSE
      go_wp2_with fail
      refine (told_two ev ev c HEV.out HEV.out w5 (HG.out.below HB6.out)).mono ?_
      rintro e w6 ⟨rfl, hb7⟩
      have HB7 := Lib.hid (HB6.out.trans (hb7.mono HB6.out.size))
      clear hb7
      go_wp2_with fail
      refine (told_two ev3 ev3 c3 HEV3.out HEV3.out w6 (HG.out.below HB7.out)).mono ?_
      rintro e w7 ⟨rfl, hb8⟩
      have HB8 := Lib.hid (HB7.out.trans (hb8.mono HB7.out.size))
      clear hb8
      have t1 : (a == a) = true := by simp
      have t2 : (b == b) = true := by simp
      have t3 : (x == x) = true := by simp
      go_wp2_with fail
      go_ret
      exact ⟨by simp, HB8.out⟩
end Go.Proofs.YtpchdclgkdoajaaDoor
