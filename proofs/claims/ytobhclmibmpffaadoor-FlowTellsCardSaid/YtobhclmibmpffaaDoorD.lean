import Derived.Test.YtobhclmibmpffaaDoorC
namespace Go.Proofs.YtobhclmibmpffaaDoor
open Go.RowKit Go.Mine Go.Mine.Flow

theorem info3 : (Tryd.prog.info? 3).map (fun i => (i.zero, i.size, i.bytes)) = some (some (.int .i64 0), 1, 8) := by kernel_rfl

/-- The numbers below k that are marked. -/
def marked (ys : List Bool) : Nat → List Int
  | 0 => []
  | k + 1 => marked ys k ++ (if ys.getD k false = true then [(k : Int)] else [])
theorem marked_mem (ys : List Bool) (x : Int) : ∀ k, x ∈ marked ys k ↔ ∃ v : Nat, x = v ∧ v < k ∧ M ys v
  | 0 => by simp [marked]
  | k + 1 => by
    rw [marked, List.mem_append, marked_mem ys x k]
    constructor
    · rintro (⟨v, h1, h2, h3⟩ | h)
      · exact ⟨v, h1, by omega, h3⟩
      · split at h
        · next hm => simp at h; exact ⟨k, h, by omega, hm⟩
        · simp at h
    · rintro ⟨v, h1, h2, h3⟩
      by_cases e : v = k
      · subst e
        refine .inr ?_
        rw [if_pos (show ys.getD v false = true from h3)]; simp [h1]
      · exact .inl ⟨v, h1, by omega, h3⟩
theorem marked_len (ys : List Bool) : ∀ k, (marked ys k).length ≤ k
  | 0 => Nat.le_refl _
  | k + 1 => by
    have := marked_len ys k
    rw [marked, List.length_append]
    split <;> simp <;> omega

open Classical in
/-- The numbers below k to which one comes. -/
noncomputable def reached (es : List (Nat × Nat)) : Nat → List Int
  | 0 => []
  | k + 1 => reached es k ++ (if R es (-1) k then [(k : Int)] else [])
theorem marked_reached {es : List (Nat × Nat)} {ys : List Bool} (h : ∀ v, M ys v ↔ R es (-1) v) : ∀ k, marked ys k = reached es k
  | 0 => rfl
  | k + 1 => by
    rw [marked, reached, marked_reached h k]
    congr 1
    by_cases hr : R es (-1) k
    · rw [if_pos hr, if_pos (show ys.getD k false = true from (h k).2 hr)]
    · rw [if_neg hr, if_neg (show ¬ ys.getD k false = true from fun hm => hr ((h k).1 hm))]
theorem reached_len (es : List (Nat × Nat)) : ∀ k, (reached es k).length ≤ k
  | 0 => Nat.le_refl _
  | k + 1 => by
    have := reached_len es k
    rw [reached, List.length_append]
    split <;> simp <;> omega

/-- What Reach answers, where the edges are right. -/
def ReachPost (n : Nat) (es : List (Int × Int)) (e : Ending) (w' : World) : Prop :=
  ∃ ao cap zs, e = .returned (.tuple #[.slice ao zs.length cap, .nilIface]) ∧ IntsAt .i64 w' ao zs ∧ zs.length ≤ 12 ∧ zs = reached (nat es) n

set_option maxHeartbeats 600000 in
theorem reach_ok (n : Nat) (es : List (Int × Int)) (lo : Option Addr) (lc : Nat) (W : World) (hx : PairsAt W lo es) (hok : ok n es) :
    Calls Tryd.prog 10 #[.int .i64 n, .slice lo es.length lc] W fun e w' => ReachPost n es e w' ∧ Below W.heap.size W w' := by
  obtain ⟨i0, hi0, hz0, hz1, hz2⟩ := info_parts info3
  obtain ⟨o1, o2, o3, o4⟩ := hok
  have HCK := Lib.hid (check_any n es lo lc W hx (by unfold maxLen; omega))
  have hn1 : 1 ≤ n := by omega
  have hn2 : n ≤ 12 := by omega
  have HME := Lib.hid (fun w h => met_any es lo lc (-1) n w h o4 hn2 hn1 (by omega))
  have HOK := Lib.hid (show ok n es from ⟨o1, o2, o3, o4⟩)
  have HX := Lib.hid hx
  clear o1 o4 hx
  go_enter Tryd.func10, Tryd.ntmps10
  go_wp2_with fail
  refine HCK.out.mono ?_
  rintro e w1 ⟨hp, hb1⟩
  rcases hp with ⟨_, rfl⟩ | ⟨h, _⟩
  · have hx1 := HX.out.below (Nat.le_refl _) hb1
    have HM := Lib.hid (HME.out w1 hx1)
    clear hx1
    go_wp2_with fail
    refine HM.out.mono ?_
    rintro e w2 ⟨g, ys, rfl, hown, hl, hR, hb2⟩
    have HR := Lib.hid hR
    have hb12 := hb1.trans (hb2.mono hb1.size)
    have hgl := (hown.lt g rfl).2
    have HC := Lib.hid (show ∀ k, k < n → w2.cell? ⟨g, k, none⟩ = some (.bool (ys.getD k false)) from fun k hk => by rw [hown.cellAt k (by omega)]; simp [hl, hk])
    clear hR hb1 hb2 hown
    go_wp2_with fail
    go_loopw [20, 7] (fun i v wr => ∃ k : Nat, i = .int .i64 k ∧ k ≤ n ∧ wr.ownsRow w2.heap.size 3 1 v (marked ys k).length ((marked ys k).map (Value.int .i64)) ∧ Below w2.heap.size w2 wr) (fun i _ _ => n - (intOf i).toNat)
    case atStart => exact ⟨0, rfl, by omega, World.ownsRow_nil _ _ _ _, Below.refl _ _⟩
    case round =>
      obtain ⟨k, rfl, hk, hv, hb⟩ := hrel
      have hml := marked_len ys k
      by_cases hkn : k < n
      · have hc := (hb.cell hgl).trans (HC.out k hkn)
        have hms : marked ys (k + 1) = marked ys k ++ (if ys.getD k false = true then [(k : Int)] else []) := rfl
        have hsz := hb.size
        cases hm : ys.getD k false
        · rw [hm] at hc hms
          have HMS := Lib.hid (show marked ys (k + 1) = marked ys k by rw [hms]; simp)
          clear hms hm
          go_wp2_with fail
          go_roundw
          case rel => exact ⟨k + 1, by go_num, by omega, by rw [HMS.out]; exact hv, hb⟩
          case measure => simp [intOf]; omega
        · rw [hm] at hc hms
          have HMS := Lib.hid (show marked ys (k + 1) = marked ys k ++ [(k : Int)] by rw [hms]; simp)
          clear hms hm
          go_wp2_with (at_builtin; refine wpList_push _ rfl _ _ 23 rfl w2.heap.size 3 i0 (.int .i64 0) 1 8 Tryd.underlying23 hi0 hz0 hz1 hz2 rfl (by decide) _ _ _ rfl (hv.alloc _) ⟨wr.heap.size, 0, none⟩ 1 [.int .i64 k] rfl rfl (cell_one_new _ _ _) (one1 _ _) (by unfold maxLen; omega) (by omega) (by simp; omega) ?_)
          intro g1 cap w3 hv3 hg3
          have hb3 := (hb.alloc hsz (.cells #[.int .i64 k] 3)).grown hg3 (by simp; omega) (fun k hk => (hv.lt k hk).1)
          clear hv hb hg3
          go_wp2_with fail
          go_roundw
          case rel => exact ⟨k + 1, by go_num, by omega, by rw [HMS.out, List.map_append, List.length_append]; exact hv3, hb3⟩
          case measure => simp [intOf]; omega
      · have hkn' : k = n := by omega
        subst hkn'
        obtain ⟨ao, cap, hve⟩ := owns_shape hv
        subst hve
        have hz := IntsAt.of_owns hv
        go_wp2_with fail
        go_ret2
        exact ⟨⟨ao, cap, marked ys k, rfl, hz, by omega, marked_reached HR.out k⟩, hb12.trans (hb.mono hb12.size)⟩
  · exact absurd HOK.out h
end Go.Proofs.YtobhclmibmpffaaDoor
