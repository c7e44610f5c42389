import Derived.Test.YtidmfodbmmkcmaaDoorF
import Derived.Test.YtidmfodbmmkcmaaDoorLists
namespace Go.Proofs.YtidmfodbmmkcmaaDoor
open Go.RowKit Go.Mine Go.Mine.Hada

theorem info22 : (Tryd.prog.info? 22).map (fun i => (i.zero, i.size, i.bytes)) = some (some (.slice none 0 0), 1, 24) := by kernel_rfl

def rowS (n i : Nat) : List Int := (List.range n).map (sg i)
def tabS (n k : Nat) : List (List Int) := (List.range k).map (rowS n)
theorem rowS_len (n i : Nat) : (rowS n i).length = n := by simp [rowS]
theorem tabS_len (n k : Nat) : (tabS n k).length = k := by simp [tabS]
theorem tabS_succ (n k : Nat) : tabS n (k + 1) = tabS n k ++ [rowS n k] := by unfold tabS; rw [List.range_succ, List.map_append]; rfl

theorem table_bad (k : Int) (W : World) (hk : k < 0 ∨ 6 < k) : Calls Tryd.prog 6 #[.int .i64 k] W fun e w' => e = .returned (.tuple #[.slice none 0 0, .iface 24 (.int .i64 1)]) ∧ W = w' := by
  by_cases h : k < 0
  · go_enter Tryd.func6, Tryd.ntmps6
    go_wp2
    go_ret2
    exact ⟨rfl, rfl⟩
  · have h6 : 6 < k := by omega
    go_enter Tryd.func6, Tryd.ntmps6
    go_wp2
    go_ret2
    exact ⟨rfl, rfl⟩

set_option maxHeartbeats 1000000 in
theorem table_ok (k n : Nat) (W : World) (hk : k ≤ 6) (hn : n = 2 ^ k) : Calls Tryd.prog 6 #[.int .i64 k] W fun e w' => ∃ g cap, e = .returned (.tuple #[.slice (some ⟨g, 0, none⟩) n cap, .nilIface]) ∧
    RowsOwn .i64 w' W.heap.size 22 (.slice (some ⟨g, 0, none⟩) n cap) (tabS n n) ∧ Below W.heap.size W w' := by
  obtain ⟨i0, hi0, hz0, hz1, hz2⟩ := info_parts info3
  obtain ⟨i1, hi1, hy0, hy1, hy2⟩ := info_parts info22
  have hp := pow_wrap k hk
  have hn64 := pow_le hk
  have hn1 : 0 < n := by rw [hn]; exact Nat.two_pow_pos k
  rw [← hn] at hp hn64
  clear hn
  have HP := Lib.hid hp; clear hp
  go_enter Tryd.func6, Tryd.ntmps6
  go_wp2_with fail
  rw [HP.out]
  go_loopw [17, 4] (fun i v wr => ∃ r : Nat, i = .int .i64 r ∧ r ≤ n ∧ RowsOwn .i64 wr W.heap.size 22 v (tabS n r) ∧ Below W.heap.size W wr) (fun i _ _ => n - (intOf i).toNat)
  case atStart => exact ⟨0, rfl, by omega, RowsOwn.nil _ _ _ _, Below.refl _ _⟩
  case round =>
    obtain ⟨r, rfl, hr, hrows, hb⟩ := hrel
    obtain ⟨wo, hwo⟩ : ∃ wo : World, wo = wr := ⟨_, rfl⟩
    rw [← hwo] at hrows hb ⊢
    clear hwo wr
    by_cases hrn : r < n
    · go_wp2_with fail
      rw [HP.out]
      go_loopw [22, 6] (fun j u wr => ∃ t : Nat, j = .int .i64 t ∧ t ≤ n ∧ wr.ownsRow wo.heap.size 3 1 u t ((rowS t r).map (Value.int .i64)) ∧ Below wo.heap.size wo wr) (fun j _ _ => n - (intOf j).toNat)
      case atStart => exact ⟨0, rfl, by omega, World.ownsRow_nil _ _ _ _, Below.refl _ _⟩
      case round =>
        obtain ⟨t, rfl, ht, hu, hbu⟩ := hrel
        by_cases htn : t < n
        · have hsz := hbu.size
          go_wp2_with (first | (go_at_call 15; refine (sign_any r t (by omega) (by omega) _).mono ?_; rintro e w' ⟨rfl, rfl⟩) | (at_builtin; refine wpList_push _ rfl (.tmp 25) (.tmp 29) 22 rfl wo.heap.size 3 i0 (.int .i64 0) 1 8 Tryd.underlying22 hi0 hz0 hz1 hz2 rfl (by decide) _ _ _ rfl (hu.alloc _) ⟨wr.heap.size, 0, none⟩ 1 [.int .i64 (sg r t)] rfl rfl (cell_one_new _ _ _) (one1 _ _) (by unfold maxLen; omega) (by omega) (by simp; omega) ?_))
          intro g cap w1 hu1 hg1
          have hb1 := (hbu.alloc hsz (.cells #[.int .i64 (sg r t)] 3)).grown hg1 (by simp; omega) (fun k hk => (hu.lt k hk).1)
          clear hu hbu hg1
          go_wp2_with fail
          go_roundw
          case rel => exact ⟨t + 1, by go_num, by omega, by unfold rowS at hu1 ⊢; rw [List.range_succ, List.map_append, List.map_append]; exact hu1, hb1⟩
          case measure => simp [intOf]; omega
        · have htn' : t = n := by omega
          subst htn'
          obtain ⟨ro, rc, hro⟩ := owns_shape hu
          subst hro
          have hrows1 := hrows.below hbu
          have hrow := IntsAt.of_owns hu
          have hblk : ∀ g o s, ro = some ⟨g, o, s⟩ → wo.heap.size ≤ g ∧ g < wr.heap.size := fun g o s e => hu.lt g (by rw [e]; rfl)
          have hvl : ∀ svals v, wo.ownsRow W.heap.size 22 1 v (tabS t r).length svals → ∀ g, v.ownBlock = some g → g < wo.heap.size := fun svals v h g hg => (h.lt g hg).2
          obtain ⟨sv0, hsv0, _⟩ := hrows
          obtain ⟨svals, hsv, hvals⟩ := hrows1
          have hsz := hbu.size
          have hbsz := hb.size
          rw [tabS_len] at hsv
          go_wp2_with (at_builtin; refine wpList_push2 _ rfl (.tmp 32) (.tmp 34) 25 rfl W.heap.size 22 i1 (.slice none 0 0) 1 24 Tryd.underlying25 hi1 hy0 hy1 hy2 rfl (by decide) _ _ _ rfl (hsv.alloc _) ⟨wr.heap.size, 0, none⟩ 1 [.slice ro t rc] rfl rfl (cell_one_new _ _ _) (by intro u hu; simp at hu; subst hu; rfl) (by unfold maxLen; omega) (by omega) (by simp; omega) ?_)
          intro g cap w1 hs1 hg1 hat
          have hb1 := ((hb.trans (hbu.mono (by omega))).alloc (by omega) (.cells #[.slice ro t rc] 22)).grown hg1 (by simp; omega) (fun k hk => (hsv.lt k hk).1)
          have hv1 := hvals.push (n := r + 1) (cap := cap) (rc := rc) (by rw [tabS_len]; exact hsv) hrow (fun g o s e => ⟨fun h => by have := hvl sv0 _ hsv0 g h; have := (hblk g o s e).1; omega, (hblk g o s e).2⟩) hg1 (hat.elim .inl (fun h => .inr (by omega)))
          rw [rowS_len, ← tabS_succ] at hv1
          clear hsv hvals hg1 hrow hu hbu hat hsv0
          go_wp2_with fail
          go_roundw
          case rel => exact ⟨r + 1, by go_num, by omega, ⟨_, by rw [tabS_len]; exact hs1, hv1⟩, hb1⟩
          case measure => simp [intOf]; omega
    · have hrn' : r = n := by omega
      subst hrn'
      obtain ⟨svals, hsv, hvals⟩ := hrows
      rcases hsv.2 with ⟨_, h0⟩ | ⟨g, cap, cur, hge, _⟩
      · rw [tabS_len] at h0; omega
      · rw [tabS_len] at hge hsv
        subst hge
        go_wp2_with fail
        go_ret2
        exact ⟨g, cap, rfl, ⟨svals, by rw [tabS_len]; exact hsv, hvals⟩, hb⟩
end Go.Proofs.YtidmfodbmmkcmaaDoor
