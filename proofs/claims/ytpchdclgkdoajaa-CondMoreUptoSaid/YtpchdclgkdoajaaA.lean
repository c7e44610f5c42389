/- CondMore's walk. -/
import Derived.Test.YtpchdclgkdoajaaCond4
import Derived.Test.YtpchdclgkdoajaaMore
namespace Go.Proofs.Ytpchdclgkdoajaa
open Go.RowKit Go.Mine Go.Mine.Cond

theorem info3 : (Try.prog.info? 3).map (fun i => (i.zero, i.size, i.bytes)) = some (some (.int .i64 0), 1, 8) := by kernel_rfl
/-- What Covers tells, in two. -/
theorem covers_two (n : Int) (fs : List Bool) (xs : List Int) (fo to : Option Addr) (fc tc : Nat) (W : World) (hf : BoolsAt W fo fs) (hx : IntsAt .i64 W to xs) (hxl : xs.length ≤ maxLen) :
    Calls Try.prog 6 #[.int .i64 n, .slice fo fs.length fc, .slice to xs.length tc] W fun e w' => (∃ x ev, e = .returned (.tuple #[.bool x, ev]) ∧ ((ev = .nilIface ∧ cok n fs.length ∧ (x = true ↔ Cov n.toNat fs xs)) ∨ ∃ c, ev = .iface 37 (.int .i64 c))) ∧ Below W.heap.size W w' := by
  refine (coversX_any n fs xs fo to fc tc W hf hx hxl).mono ?_
  rintro e w' ⟨hp, hb⟩
  refine ⟨?_, hb⟩
  rcases hp with ⟨_, rfl⟩ | ⟨_, _, rfl⟩ | ⟨h1, _, b, rfl, h2⟩
  · exact ⟨_, _, rfl, .inr ⟨_, rfl⟩⟩
  · exact ⟨_, _, rfl, .inr ⟨_, rfl⟩⟩
  · exact ⟨_, _, rfl, .inl ⟨rfl, h1, h2⟩⟩

def upto (t : Nat) : List Int := (List.range t).map fun j : Nat => (j : Int)
theorem upto_len (t : Nat) : (upto t).length = t := by simp [upto]
theorem upto_succ (t : Nat) : (upto t).map (Value.int .i64) ++ [.int .i64 t] = (upto (t + 1)).map (Value.int .i64) := by simp [upto, List.range_succ]
theorem upto_mem {t j : Nat} (h : j < t) : (j : Int) ∈ upto t := List.mem_map.2 ⟨j, List.mem_range.2 h, rfl⟩

set_option maxHeartbeats 4000000 in
set_option maxRecDepth 100000 in
theorem condMore_walk (n : Int) (fs : List Bool) (xs ys : List Int) (fo to mo : Option Addr) (fc tc mc : Nat) (W : World) (hf : BoolsAt W fo fs) (hx : IntsAt .i64 W to xs) (hy : IntsAt .i64 W mo ys) (hn1 : to = none → xs.length = 0) (hn2 : mo = none → ys.length = 0) (hfl : fs.length ≤ maxLen) (hxl : xs.length ≤ 1048576) (hyl : ys.length ≤ 1048576) :
    Calls Try.prog 3 #[.int .i64 n, .slice fo fs.length fc, .slice to xs.length tc, .slice mo ys.length mc] W fun e w' => e = .returned (.bool true) ∧ Below W.heap.size W w' := by
  obtain ⟨i0, hi0, hz0, hz1, hz2⟩ := info_parts info3
  have HF := Lib.hid (show ∀ w, Below W.heap.size W w → BoolsAt w fo fs from fun w hb => hf.below (Nat.le_refl _) hb)
  have HX := Lib.hid (show ∀ w, Below W.heap.size W w → IntsAt .i64 w to xs from fun w hb => hx.below (Nat.le_refl _) hb)
  have HY := Lib.hid (show ∀ w, Below W.heap.size W w → IntsAt .i64 w mo ys from fun w hb => hy.below (Nat.le_refl _) hb)
  have HN1 := Lib.hid hn1
  have HN2 := Lib.hid hn2
  unfold maxLen at hfl
  clear hf hx hy hn1 hn2
  go_enter Try.func3, Try.ntmps3
  go_wp2_with fail
  refine (decided_true W).mono ?_
  rintro e w1 ⟨rfl, hb1⟩
  have HB1 := Lib.hid hb1
  have HC1 := covers_two n fs xs fo to fc tc w1 (HF.out _ hb1) (HX.out _ hb1) (by unfold maxLen; omega)
  clear hb1
  go_wp2_with fail
  refine HC1.mono ?_
  clear HC1
  rintro e w2 ⟨⟨x, ev, rfl, hx⟩, hb⟩
  have hb2 := HB1.out.trans (hb.mono HB1.out.size)
  have HP1 := Lib.hid hx
  have hs2 := hb2.size
  have ho3 : (w2.alloc (.cells #[] 3)).ownsRow W.heap.size 3 1 (.slice (some ⟨w2.heap.size, 0, none⟩) 0 0) 0 [] := owns_empty hs2 (heap_alloc_at _ _ rfl)
  have HO3 := Lib.hid ho3
  have HB3 := Lib.hid (hb2.alloc hs2 (.cells #[] 3))
  clear hx hb hb2 ho3 HB1
  go_wp2_with (at_builtin; refine wpList_append_all _ rfl _ _ 23 rfl W.heap.size 3 i0 (.int .i64 0) 1 8 Try.underlying23 hi0 hz0 hz1 hz2 rfl (by decide) _ 0 [] rfl HO3.out to xs.length tc (xs.map (Value.int .i64)) rfl (by simp) HN1.out (HX.out _ HB3.out).news (ints1 _ _) (by unfold maxLen; omega) (by omega) (by simp; omega) ?_)
  intro v4 w4 ho4 hg4
  have hb4 := HB3.out.grown hg4 HB3.out.size (fun k hk => (HO3.out.lt k hk).1)
  have hs4 := hb4.size
  try simp only [Nat.zero_add, List.nil_append] at ho4
  obtain ⟨a4, c4, rfl⟩ := owns_shape ho4
  have HO4 := Lib.hid ho4
  have HB4 := Lib.hid hb4
  clear ho4 hg4 hb4
  go_wp2_with (at_builtin; refine wpList_append_all _ rfl _ _ 23 rfl W.heap.size 3 i0 (.int .i64 0) 1 8 Try.underlying23 hi0 hz0 hz1 hz2 rfl (by decide) _ xs.length (xs.map (Value.int .i64)) rfl HO4.out mo ys.length mc (ys.map (Value.int .i64)) rfl (by simp) HN2.out (HY.out _ HB4.out).news (ints1 _ _) (by unfold maxLen; omega) (by omega) hs4 ?_)
  intro v5 w5 ho5 hg5
  have hb5 := HB4.out.grown hg5 HB4.out.size (fun k hk => (HO4.out.lt k hk).1)
  have e5 : xs.map (Value.int .i64) ++ ys.map (Value.int .i64) = (xs ++ ys).map (Value.int .i64) := by simp
  have e6 : xs.length + ys.length = (xs ++ ys).length := by simp
  have hzl : (xs ++ ys).length ≤ 2097152 := by rw [List.length_append]; omega
  obtain ⟨zs, hzs⟩ : ∃ zs, zs = xs ++ ys := ⟨_, rfl⟩
  rw [e5, e6, ← hzs] at ho5
  rw [← hzs] at hzl
  have HZS := Lib.hid (show ∀ z ∈ xs, z ∈ zs from fun z hz => by rw [hzs]; exact List.mem_append_left _ hz)
  obtain ⟨ao, ac, rfl⟩ := owns_shape ho5
  have HI5 := Lib.hid (IntsAt.of_owns ho5)
  have HB5 := Lib.hid hb5
  have HC2 := Lib.hid (covers_two n fs zs fo ao fc ac w5 (HF.out _ hb5) HI5.out (by unfold maxLen; omega))
  clear e5 e6 hzs ho5 hg5 hb5 HO3 HO4 HB3 HB4 hs2 hs4
  go_wp2_with fail
  refine HC2.out.mono ?_
  clear HC2
  rintro e w6 ⟨⟨y, ev2, rfl, hy⟩, hb⟩
  have HB6 := Lib.hid (HB5.out.trans (hb.mono HB5.out.size))
  clear hb HI5
  have htest : (x = true → ev = .nilIface → ev2 = .nilIface → y = true) := by
    intro h1 h2 h3
    subst h2 h3
    rcases HP1.out with ⟨_, h4, h5⟩ | ⟨c, h⟩
    · rcases hy with ⟨_, _, h6⟩ | ⟨c, h⟩
      · exact h6.2 ((h5.1 h1).more HZS.out)
      · cases h
    · cases h
  have hev : ev = .nilIface ∨ ∃ c, ev = .iface 37 (.int .i64 c) := HP1.out.elim (fun h => .inl h.1) .inr
  have hev2 : ev2 = .nilIface ∨ ∃ c, ev2 = .iface 37 (.int .i64 c) := hy.elim (fun h => .inl h.1) .inr
  clear HP1 hy
  have HFIN := Lib.hid (show ∀ (w : World) (t : Nat) (v : Value), t ≤ fs.length → t ≤ 64 → ¬ (t < fs.length ∧ t < 64) → w.ownsRow W.heap.size 3 1 v t ((upto t).map (Value.int .i64)) → Below W.heap.size W w → ∃ ao ac, v = .slice ao t ac ∧
      Calls Try.prog 6 #[.int .i64 n, .slice fo fs.length fc, .slice ao t ac] w fun e w' => (∃ z ev, e = .returned (.tuple #[.bool z, ev]) ∧ ((ev = .nilIface ∧ z = true) ∨ ∃ c, ev = .iface 37 (.int .i64 c))) ∧ Below W.heap.size W w' from by
    intro w t v h1 h2 h3 ho hb
    obtain ⟨ao, ac, rfl⟩ := owns_shape ho
    refine ⟨ao, ac, rfl, ?_⟩
    have := covers_two n fs (upto t) fo ao fc ac w (HF.out _ hb) (IntsAt.of_owns ho) (by rw [upto_len]; unfold maxLen; omega)
    rw [upto_len] at this
    refine this.mono ?_
    rintro e w' ⟨⟨z, ev, rfl, hz⟩, hb'⟩
    refine ⟨⟨z, ev, rfl, ?_⟩, hb.trans (hb'.mono hb.size)⟩
    rcases hz with ⟨rfl, ⟨m, rfl, hm1, hm6, hl⟩, h5⟩ | h
    · left
      refine ⟨rfl, h5.2 ?_⟩
      rw [Int.toNat_natCast]
      have := pow_le hm6
      exact Cov.all hm6 hl fun j hj => upto_mem (by omega)
    · exact .inr h)
  rcases hev with rfl | ⟨c, rfl⟩ <;> rcases hev2 with rfl | ⟨c2, rfl⟩
  case' inl.inl =>
    cases x
    case' true =>
      obtain rfl := htest rfl rfl rfl
  all_goals
    clear htest
    go_wp2_with fail
    go_loopw [14, 15] (fun v tv wr => ∃ t : Nat, tv = .int .i64 t ∧ t ≤ fs.length ∧ t ≤ 64 ∧ wr.ownsRow W.heap.size 3 1 v t ((upto t).map (Value.int .i64)) ∧ Below W.heap.size W wr) (fun _ tv _ => 64 - (intOf tv).toNat)
    case atStart => exact ⟨0, rfl, by omega, by omega, World.ownsRow_nil _ _ _ _, HB6.out⟩
    obtain ⟨t, rfl, ht1, ht2, ho, hb⟩ := hrel
    have hsz := hb.size
    by_cases hlt : t < fs.length ∧ t < 64
    · obtain ⟨hl1, hl2⟩ := hlt
      have HO := Lib.hid ho
      have HB := Lib.hid hb
      clear ho hb
      go_wp2_with (at_builtin; refine wpList_push _ rfl _ _ 23 rfl W.heap.size 3 i0 (.int .i64 0) 1 8 Try.underlying23 hi0 hz0 hz1 hz2 rfl (by decide) _ _ _ rfl (HO.out.alloc _) ⟨wr.heap.size, 0, none⟩ 1 [.int .i64 t] rfl rfl (cell_one_new _ _ _) (one1 _ _) (by unfold maxLen; omega) (by omega) (by simp; omega) ?_)
      intro g cap w7 ho7 hg7
      have hb7 := (HB.out.alloc hsz (.cells #[.int .i64 t] 3)).grown hg7 (by simp; omega) (fun k hk => (HO.out.lt k hk).1)
      rw [upto_succ] at ho7
      have HO7 := Lib.hid ho7
      have HB7 := Lib.hid hb7
      clear ho7 hb7 hg7
      go_wp2_with fail
      go_roundw
      case rel => exact ⟨t + 1, by go_num, by omega, by omega, HO7.out, HB7.out⟩
      case measure => simp [intOf]; omega
    · obtain ⟨ao3, ac3, rfl, HC⟩ := HFIN.out wr t u14 ht1 ht2 hlt ho hb
      have hsl : t = fs.length ∨ (t = 64 ∧ t < fs.length) := by omega
      clear ho hb
      rcases hsl with hsl | ⟨hsl, hsl2⟩
      all_goals
        subst hsl
        go_wp2_with fail
        refine HC.mono ?_
        clear HC
        rintro e w8 ⟨⟨z, ev, rfl, hz⟩, hb8⟩
        have HB8 := Lib.hid hb8
        clear hb8
        rcases hz with ⟨rfl, rfl⟩ | ⟨c, rfl⟩
        all_goals
          go_wp2_with fail
          go_ret
          exact ⟨rfl, HB8.out⟩
end Go.Proofs.Ytpchdclgkdoajaa
