import Derived.Test.YtobhclmibmpffaaDoorD
namespace Go.Proofs.YtobhclmibmpffaaDoor
open Go.RowKit Go.Mine Go.Mine.Flow

open Classical in
/-- The numbers below k without which one does not come to i. -/
noncomputable def passed (es : List (Nat × Nat)) (i : Nat) : Nat → List Int
  | 0 => []
  | k + 1 => passed es i k ++ (if R es k i then [] else [(k : Int)])
theorem passed_mem (es : List (Nat × Nat)) (i : Nat) (x : Int) : ∀ k, x ∈ passed es i k ↔ ∃ v : Nat, x = v ∧ v < k ∧ ¬ R es v i
  | 0 => by simp [passed]
  | k + 1 => by
    rw [passed, List.mem_append, passed_mem es i x k]
    constructor
    · rintro (⟨v, h1, h2, h3⟩ | h)
      · exact ⟨v, h1, by omega, h3⟩
      · split at h
        · simp at h
        · next hm => simp at h; exact ⟨k, h, by omega, hm⟩
    · rintro ⟨v, h1, h2, h3⟩
      by_cases e : v = k
      · subst e
        refine .inr ?_
        rw [if_neg h3]; simp [h1]
      · exact .inl ⟨v, h1, by omega, h3⟩
theorem passed_len (es : List (Nat × Nat)) (i : Nat) : ∀ k, (passed es i k).length ≤ k
  | 0 => Nat.le_refl _
  | k + 1 => by
    have := passed_len es i k
    rw [passed, List.length_append]
    split <;> simp <;> omega

/-- What Over answers, where the edges are right. -/
def OverPost (n : Nat) (es : List (Int × Int)) (i : Int) (e : Ending) (w' : World) : Prop :=
  (¬ (0 ≤ i ∧ i < n) ∧ e = .returned (.tuple #[.slice none 0 0, .iface 25 (.int .i64 1)])) ∨
  ((0 ≤ i ∧ i < n) ∧ ¬ R (nat es) (-1) i.toNat ∧ e = .returned (.tuple #[.slice none 0 0, .iface 25 (.int .i64 2)])) ∨
  ((0 ≤ i ∧ i < n ∧ R (nat es) (-1) i.toNat) ∧ ∃ ao cap zs, e = .returned (.tuple #[.slice ao zs.length cap, .nilIface]) ∧ IntsAt .i64 w' ao zs ∧ zs.length ≤ 12 ∧ zs = passed (nat es) i.toNat n)

set_option maxRecDepth 100000 in
set_option maxHeartbeats 1000000 in
theorem over_ok (n : Nat) (es : List (Int × Int)) (i : Int) (lo : Option Addr) (lc : Nat) (W : World) (hx : PairsAt W lo es) (hok : ok n es) :
    Calls Tryd.prog 12 #[.int .i64 n, .slice lo es.length lc, .int .i64 i] W fun e w' => OverPost n es i e w' ∧ Below W.heap.size W w' := by
  obtain ⟨i0, hi0, hz0, hz1, hz2⟩ := info_parts info3
  obtain ⟨o1, o2, o3, o4⟩ := hok
  have HCK := Lib.hid (check_any n es lo lc W hx (by unfold maxLen; omega))
  have hn1 : 1 ≤ n := by omega
  have hn2 : n ≤ 12 := by omega
  have HME := Lib.hid (fun but w h => met_any es lo lc but n w h o4 hn2 hn1 (by omega))
  have HOK := Lib.hid (show ok n es from ⟨o1, o2, o3, o4⟩)
  have HX := Lib.hid hx
  clear o1 o4 hx
  go_enter Tryd.func12, Tryd.ntmps12
  go_wp2_with fail
  refine HCK.out.mono ?_
  rintro e w1 ⟨hp, hb1⟩
  rcases hp with ⟨_, rfl⟩ | ⟨h, _⟩
  · by_cases h1 : i < 0
    · go_wp2_with fail
      go_ret2
      exact ⟨.inl ⟨fun h => by omega, rfl⟩, hb1⟩
    · by_cases h2 : n ≤ i
      · go_wp2_with fail
        go_ret2
        exact ⟨.inl ⟨fun h => by omega, rfl⟩, hb1⟩
      · obtain ⟨I, rfl⟩ := Int.eq_ofNat_of_zero_le (show 0 ≤ i by omega)
        have hx1 := HX.out.below (Nat.le_refl _) hb1
        have HM := Lib.hid (HME.out (-1) w1 hx1)
        clear hx1
        go_wp2_with fail
        refine HM.out.mono ?_
        rintro e w2 ⟨g, ys, rfl, hown, hl, hR, hb2⟩
        have hb12 := hb1.trans (hb2.mono hb1.size)
        have hc : w2.cell? ⟨g, I, none⟩ = some (.bool (ys.getD I false)) := by rw [hown.cellAt I (by omega)]; simp [hl, show I < n by omega]
        have hRI := hR I
        clear hown hR hb2
        cases hm : ys.getD I false
        · have hno : ¬ R (nat es) (-1) I := fun h => by have := hRI.2 h; unfold M at this; rw [hm] at this; cases this
          rw [hm] at hc
          have HNO := Lib.hid hno
          clear hno hRI hm
          go_wp2_with fail
          go_ret2
          exact ⟨.inr (.inl ⟨⟨by omega, by omega⟩, by simpa using HNO.out, rfl⟩), hb12⟩
        · have hyes : R (nat es) (-1) I := hRI.1 hm
          rw [hm] at hc
          have HY := Lib.hid hyes
          clear hyes hRI hm
          go_wp2_with fail
          go_loopw [34, 9] (fun t v wr => ∃ k : Nat, t = .int .i64 k ∧ k ≤ n ∧ wr.ownsRow w2.heap.size 3 1 v (passed (nat es) I k).length ((passed (nat es) I k).map (Value.int .i64)) ∧ Below w2.heap.size w2 wr) (fun t _ _ => n - (intOf t).toNat)
          case atStart => exact ⟨0, rfl, by omega, World.ownsRow_nil _ _ _ _, Below.refl _ _⟩
          case round =>
            obtain ⟨k, rfl, hk, hv, hb⟩ := hrel
            have hml := passed_len (nat es) I k
            have hsz := hb.size
            by_cases hkn : k < n
            · have hbW := hb12.trans (hb.mono hb12.size)
              have hxr := HX.out.below (Nat.le_refl _) hbW
              have HMk := Lib.hid (HME.out k wr hxr)
              clear hxr hbW hc
              go_wp2_with fail
              refine HMk.out.mono ?_
              rintro e w3 ⟨g3, zs, rfl, hown3, hl3, hR3, hb3⟩
              have hc3 : w3.cell? ⟨g3, I, none⟩ = some (.bool (zs.getD I false)) := by rw [hown3.cellAt I (by omega)]; simp [hl3, show I < n by omega]
              have hv3 := owns_below hv hb3
              have hb4 := hb.trans (hb3.mono hsz)
              have hsz4 := hb4.size
              have hRk := hR3 I
              clear hown3 hR3 hb3 hv hb
              cases hm : zs.getD I false
              · have hno : ¬ R (nat es) k I := fun h => by have := hRk.2 h; unfold M at this; rw [hm] at this; cases this
                rw [hm] at hc3
                have HMS := Lib.hid (show passed (nat es) I (k + 1) = passed (nat es) I k ++ [(k : Int)] by rw [passed, if_neg hno])
                clear hno hRk hm
                go_wp2_with (at_builtin; refine wpList_push _ rfl _ _ 23 rfl w2.heap.size 3 i0 (.int .i64 0) 1 8 Tryd.underlying23 hi0 hz0 hz1 hz2 rfl (by decide) _ _ _ rfl (hv3.alloc _) ⟨w3.heap.size, 0, none⟩ 1 [.int .i64 k] rfl rfl (cell_one_new _ _ _) (one1 _ _) (by unfold maxLen; omega) (by omega) (by simp; omega) ?_)
                intro g1 cap w5 hv5 hg5
                have hb5 := (hb4.alloc hsz4 (.cells #[.int .i64 k] 3)).grown hg5 (by simp; omega) (fun k hk => (hv3.lt k hk).1)
                clear hv3 hb4 hg5
                go_wp2_with fail
                go_roundw
                case rel => exact ⟨k + 1, by go_num, by omega, by rw [HMS.out, List.map_append, List.length_append]; exact hv5, hb5⟩
                case measure => simp [intOf]; omega
              · have hyes : R (nat es) k I := hRk.1 hm
                rw [hm] at hc3
                have HMS := Lib.hid (show passed (nat es) I (k + 1) = passed (nat es) I k by rw [passed, if_pos hyes]; simp)
                clear hyes hRk hm
                go_wp2_with fail
                go_roundw
                case rel => exact ⟨k + 1, by go_num, by omega, by rw [HMS.out]; exact hv3, hb4⟩
                case measure => simp [intOf]; omega
            · have hkn' : k = n := by omega
              subst hkn'
              obtain ⟨ao, cap, hve⟩ := owns_shape hv
              subst hve
              have hz := IntsAt.of_owns hv
              go_wp2_with fail
              go_ret2
              exact ⟨.inr (.inr ⟨⟨by omega, by omega, by simpa using HY.out⟩, ao, cap, passed (nat es) I k, rfl, hz, by omega, by simp⟩), hb12.trans (hb.mono hb12.size)⟩
  · exact absurd HOK.out h
end Go.Proofs.YtobhclmibmpffaaDoor
