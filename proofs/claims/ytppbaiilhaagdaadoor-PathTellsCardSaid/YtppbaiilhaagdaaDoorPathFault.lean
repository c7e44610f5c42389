/- assayerref2.PathFault. No conditions. -/
import Derived.Test.YtppbaiilhaagdaaDoorPath7
import Derived.Test.YtppbaiilhaagdaaDoorEdgeFault
import Derived.Test.YtppbaiilhaagdaaDoorReachF
import Derived.Test.YtppbaiilhaagdaaDoorHasG
namespace Go.Proofs.YtppbaiilhaagdaaDoor
open Go.RowKit Go.Mine Go.Mine.Path Go.Mine.Flow Go.Deep

/-- What is wrong. -/
def PE (n : Int) (es : List (Int × Int)) (c : Int) : Prop := (pathOk n es ∧ c = 0) ∨ (¬ pathOk n es ∧ (ok n es → c = 3) ∧ (¬ ok n es → c = efault n es))
set_option maxHeartbeats 2000000 in
set_option maxRecDepth 100000 in
theorem pathFault_any (n : Int) (es : List (Int × Int)) (lo : Option Addr) (lc : Nat) (W : World) (hx : PairsAt W lo es) (hl : es.length ≤ maxLen) (hc : lo ≠ none → es.length ≤ lc) :
    Calls Tryd.prog 5 #[.int .i64 n, .slice lo es.length lc] W fun e w' => (∃ c : Int, e = .returned (.int .i64 c) ∧ PE n es c) ∧ Below W.heap.size W w' := by
  have HEF := Lib.hid (edgeFault_any n es lo lc W hx hl)
  have HX := Lib.hid (show ∀ w, Below W.heap.size W w → PairsAt w lo es from fun w hb => hx.below (Nat.le_refl _) hb)
  clear hx
  by_cases hok : ok n es
  rotate_left
  · obtain ⟨c, hce⟩ : ∃ c, c = efault n es := ⟨_, rfl⟩
    rw [← hce] at HEF
    have hc0 : (c != 0) = true := by
      rcases efault_bad hok with h | h <;> rw [hce, h] <;> rfl
    have HP := Lib.hid (show PE n es c from .inr ⟨fun h => hok h.1, fun h => absurd h hok, fun _ => hce⟩)
    clear hok hce
    go_enter Tryd.func5, Tryd.ntmps5
    go_wp2_with fail
    refine HEF.out.mono ?_
    rintro e w1 ⟨rfl, rfl⟩
    go_wp2_with fail
    refine HEF.out.mono ?_
    rintro e w1 ⟨rfl, rfl⟩
    go_wp2_with fail
    go_ret
    exact ⟨⟨c, rfl, HP.out⟩, Below.refl _ _⟩
  rw [efault_ok hok] at HEF
  obtain ⟨N, rfl⟩ := Int.eq_ofNat_of_zero_le (show 0 ≤ n by have := hok.1; omega)
  have hN0 : 1 ≤ N := by have := hok.1; omega
  have hN12 : N ≤ 12 := by have := hok.2.1; omega
  have hel : es.length ≤ 30 := hok.2.2.1
  have HOK := Lib.hid hok
  clear hok
  go_enter Tryd.func5, Tryd.ntmps5
  go_wp2_with fail
  refine HEF.out.mono ?_
  clear HEF
  rintro e w1 ⟨rfl, rfl⟩
  go_wp2_with fail
  go_loopw [5] (fun qv wr => ∃ q : Nat, qv = .int .i64 (q : Int) ∧ q ≤ es.length ∧ RowKit.Hid ((es.take q).Nodup) ∧ RowKit.Hid (∀ j a b, j < q → (natE es)[j]? = some (a, b) → ¬ Rch (natE es) b a) ∧ RowKit.Hid (Below W.heap.size W wr)) (fun qv _ => es.length - (intOf qv).toNat)
  case atStart => exact ⟨0, rfl, by omega, Lib.hid (by simp), Lib.hid (fun _ _ _ h => by omega), Lib.hid (Below.refl _ _)⟩
  case round =>
    obtain ⟨q, rfl, hq, hnd, hac, hb⟩ := hrel
    have HND := Lib.hid hnd.out
    have HAC := Lib.hid hac.out
    have HB := Lib.hid hb.out
    clear hnd hac hb
    by_cases hlt : q < es.length
    · obtain ⟨eb, eo, rfl, hce1, hce2⟩ := HX.out wr HB.out q hlt
      have hlc := hc (by simp)
      have hlcq : q ≤ lc := by omega
      have hmem : es.getD q (0, 0) ∈ es := by simp [hlt]
      obtain ⟨q1, q2, q3, q4⟩ := HOK.out.2.2.2 _ hmem
      have hnat : (natE es)[q]? = some ((es.getD q (0, 0)).1.toNat, (es.getD q (0, 0)).2.toNat) := by simp [natE, hlt]
      obtain ⟨z, hz⟩ : ∃ z, z = es.getD q (0, 0) := ⟨_, rfl⟩
      rw [← hz] at hce1 hce2 hnat q1 q2 q3 q4
      obtain ⟨x, y⟩ := z
      simp only at hce1 hce2 q1 q2 q3 q4
      obtain ⟨x, rfl⟩ := Int.eq_ofNat_of_zero_le q1
      obtain ⟨y, rfl⟩ := Int.eq_ofNat_of_zero_le q3
      simp only [Int.toNat_natCast] at hnat
      have hxn : x < N := by omega
      have hyn : y < N := by omega
      have HXN := Lib.hid hnat
      have HXY := Lib.hid (List.mem_of_getElem? hnat)
      have hlen : (es.take q).length = q := by simp; omega
      have HHE := Lib.hid (show ∀ w, Below wr.heap.size wr w → Calls Tryd.prog 14 #[.slice (some ⟨eb, eo, none⟩) q lc, .int .i64 (x : Int), .int .i64 (y : Int)] w fun e w' => e = .returned (.bool (decide (((x : Int), (y : Int)) ∈ es.take q))) ∧ w = w' from fun w hb => by
        have h := hasEdge_any (es.take q) x y (some ⟨eb, eo, none⟩) lc w (PairsAt.taken (HX.out w (HB.out.trans (hb.mono HB.out.size))) q) (by rw [hlen]; unfold maxLen; omega)
        rw [hlen] at h
        exact h)
      have HRF := Lib.hid (fun w (hb : Below wr.heap.size wr w) => reachF_any es (some ⟨eb, eo, none⟩) lc y N w (HX.out w (HB.out.trans (hb.mono HB.out.size))) HOK.out.2.2.2 hN12 hN0 hel hyn)
      have HZ := Lib.hid hz
      obtain ⟨d, hd⟩ : ∃ d, d = decide (((x : Int), (y : Int)) ∈ es.take q) := ⟨_, rfl⟩
      rw [← hd] at HHE
      have HD := Lib.hid hd
      have hq0 : (0 : Int) ≤ (q : Int) := by omega
      have hqc : (q : Int) ≤ (lc : Int) := by omega
      have hql : (q : Int) < (es.length : Int) := by omega
      have hx0 : (0 : Int) ≤ (x : Int) := by omega
      have hxN : (x : Int) < (N : Int) := by omega
      clear hz hlen hd hnat hmem q1 q3
      go_wp2_with fail
      refine wp_region_held_drew (S := (fun w' => w'.cell? ⟨eb, eo + q * 2, none⟩ = some (.int .i64 (x : Int)) ∧ w'.cell? ⟨eb, eo + q * 2 + 1, none⟩ = some (.int .i64 (y : Int)))) (by kernel_rfl) ?hS0 (fun hHeld => ?_)
      case hS0 => exact ⟨hce1, hce2⟩
      refine wpAnyH_take (i := 0) (v := ?vv0a) rfl (by kernel_rfl) (by kernel_rfl) (by kernel_rfl) (fun _ _ _ h => h) (Or.inl ⟨by rfl, ?hy0a⟩) (by assumption) ?rest0a
      case hy0a => ((intro w hSw; (try dsimp only at hSw); go_simp) <;> with_reducible rfl)
      try simp only [List.getElem_toArray, List.getElem_cons_succ, List.getElem_cons_zero, Act.put, List.setIfInBounds_toArray, List.set_cons_zero, List.set_cons_succ]
      refine wpAnyH_take (i := 1) (v := ?vv1a) rfl (by kernel_rfl) (by kernel_rfl) (by kernel_rfl) (fun _ _ _ h => h) (Or.inl ⟨by rfl, ?hy1a⟩) (by assumption) ?rest1a
      case hy1a => ((intro w hSw; (try dsimp only at hSw); go_simp) <;> with_reducible rfl)
      try simp only [List.getElem_toArray, List.getElem_cons_succ, List.getElem_cons_zero, Act.put, List.setIfInBounds_toArray, List.set_cons_zero, List.set_cons_succ]
      refine wpAnyH_take (i := 2) (v := ?vv2a) rfl (by kernel_rfl) (by kernel_rfl) (by kernel_rfl) (fun _ _ _ h => h) (Or.inl ⟨by rfl, ?hy2a⟩) (by assumption) ?rest2a
      case hy2a => ((intro w hSw; (try dsimp only at hSw); go_simp) <;> with_reducible rfl)
      try simp only [List.getElem_toArray, List.getElem_cons_succ, List.getElem_cons_zero, Act.put, List.setIfInBounds_toArray, List.set_cons_zero, List.set_cons_succ]
      refine wpAnyH_take (i := 3) (v := ?vv3a) rfl (by kernel_rfl) (by kernel_rfl) (by kernel_rfl) (fun _ _ _ h => h) (Or.inl ⟨by rfl, ?hy3a⟩) (by assumption) ?rest3a
      case hy3a => ((intro w hSw; (try dsimp only at hSw); go_simp) <;> with_reducible rfl)
      try simp only [List.getElem_toArray, List.getElem_cons_succ, List.getElem_cons_zero, Act.put, List.setIfInBounds_toArray, List.set_cons_zero, List.set_cons_succ]
      refine wpAnyH_take (i := 4) (v := ?vv4a) rfl (by kernel_rfl) (by kernel_rfl) (by kernel_rfl) (fun _ _ _ h => h) (Or.inl ⟨by rfl, ?hy4a⟩) (by assumption) ?rest4a
      case hy4a => ((intro w hSw; (try dsimp only at hSw); go_simp) <;> with_reducible rfl)
      try simp only [List.getElem_toArray, List.getElem_cons_succ, List.getElem_cons_zero, Act.put, List.setIfInBounds_toArray, List.set_cons_zero, List.set_cons_succ]
      refine wpAnyH_take (i := 5) (v := ?vv5a) rfl (by kernel_rfl) (by kernel_rfl) (by kernel_rfl) (fun _ _ _ h => h) (Or.inl ⟨by rfl, ?hy5a⟩) (by assumption) ?rest5a
      case hy5a => ((intro w hSw; (try dsimp only at hSw); go_simp) <;> with_reducible rfl)
      try simp only [List.getElem_toArray, List.getElem_cons_succ, List.getElem_cons_zero, Act.put, List.setIfInBounds_toArray, List.set_cons_zero, List.set_cons_succ]
      refine wpAnyH_take (i := 6) (v := ?vv6a) rfl (by kernel_rfl) (by kernel_rfl) (by kernel_rfl) (fun _ _ _ h => h) (Or.inl ⟨by rfl, ?hy6a⟩) (by assumption) ?rest6a
      case hy6a => ((intro w hSw; (try dsimp only at hSw); go_simp) <;> with_reducible rfl)
      try simp only [List.getElem_toArray, List.getElem_cons_succ, List.getElem_cons_zero, Act.put, List.setIfInBounds_toArray, List.set_cons_zero, List.set_cons_succ]
      refine wpAnyH_take (i := 7) (v := ?vv7a) rfl (by kernel_rfl) (by kernel_rfl) (by kernel_rfl) (fun _ _ _ h => h) (Or.inl ⟨by rfl, ?hy7a⟩) (by assumption) ?rest7a
      case hy7a => ((intro w hSw; (try dsimp only at hSw); go_simp) <;> with_reducible rfl)
      try simp only [List.getElem_toArray, List.getElem_cons_succ, List.getElem_cons_zero, Act.put, List.setIfInBounds_toArray, List.set_cons_zero, List.set_cons_succ]
      refine wpAnyH_take (i := 8) (v := ?vv8a) rfl (by kernel_rfl) (by kernel_rfl) (by kernel_rfl) (fun _ _ _ h => h) (Or.inl ⟨by rfl, ?hy8a⟩) (by assumption) ?rest8a
      case hy8a => ((intro w hSw; (try dsimp only at hSw); go_simp) <;> with_reducible rfl)
      try simp only [List.getElem_toArray, List.getElem_cons_succ, List.getElem_cons_zero, Act.put, List.setIfInBounds_toArray, List.set_cons_zero, List.set_cons_succ]
      refine wpAnyH_take (i := 9) (v := ?vv9a) rfl (by kernel_rfl) (by kernel_rfl) (by kernel_rfl) (fun _ _ _ h => h) (Or.inl ⟨by rfl, ?hy9a⟩) (by assumption) ?rest9a
      case hy9a => ((intro w hSw; (try dsimp only at hSw); go_simp) <;> with_reducible rfl)
      try simp only [List.getElem_toArray, List.getElem_cons_succ, List.getElem_cons_zero, Act.put, List.setIfInBounds_toArray, List.set_cons_zero, List.set_cons_succ]
      refine wpAnyH_take (i := 10) (v := ?vv10a) rfl (by kernel_rfl) (by kernel_rfl) (by kernel_rfl) (fun _ _ _ h => h) (Or.inl ⟨by rfl, ?hy10a⟩) (by assumption) ?rest10a
      case hy10a => ((intro w hSw; (try dsimp only at hSw); go_simp) <;> with_reducible rfl)
      try simp only [List.getElem_toArray, List.getElem_cons_succ, List.getElem_cons_zero, Act.put, List.setIfInBounds_toArray, List.set_cons_zero, List.set_cons_succ]
      refine wpAnyH_take (i := 11) (v := ?vv11a) rfl (by kernel_rfl) (by kernel_rfl) (by kernel_rfl) (fun _ _ _ h => h) (Or.inl ⟨by rfl, ?hy11a⟩) (by assumption) ?rest11a
      case hy11a => ((intro w hSw; (try dsimp only at hSw); go_simp) <;> with_reducible rfl)
      try simp only [List.getElem_toArray, List.getElem_cons_succ, List.getElem_cons_zero, Act.put, List.setIfInBounds_toArray, List.set_cons_zero, List.set_cons_succ]
      refine wpAnyH_take (i := 12) (v := ?vv12a) rfl (by kernel_rfl) (by kernel_rfl) (by kernel_rfl) (fun _ _ _ h => h) (Or.inl ⟨by rfl, ?hy12a⟩) (by assumption) ?rest12a
      case hy12a => ((intro w hSw; (try dsimp only at hSw); go_simp) <;> with_reducible rfl)
      try simp only [List.getElem_toArray, List.getElem_cons_succ, List.getElem_cons_zero, Act.put, List.setIfInBounds_toArray, List.set_cons_zero, List.set_cons_succ]
      refine wpAnyH_ready (rs := [13]) (by kernel_rfl) (by simp) ?_
      refine AllReadyH.cons rfl (fun K hK => ?_) AllReadyH.nil
      go_simp
      go_at_call 14
      refine (HHE.out _ (Below.refl _ _).drew).mono ?_
      rintro e w9 ⟨rfl, rfl⟩
      refine hK.out _ _ ⟨hce1, hce2⟩ (fun hHeld => ?_)
      clear hK K
      try simp only [List.getElem_toArray, List.getElem_cons_succ, List.getElem_cons_zero, Act.put, List.setIfInBounds_toArray, List.set_cons_zero, List.set_cons_succ]
      cases d with
      | true =>
        refine wpAnyH_take (i := 14) (v := ?vv14b) rfl (by kernel_rfl) (by kernel_rfl) (by kernel_rfl) (fun _ _ _ h => h) (Or.inl ⟨by rfl, ?hy14b⟩) (by assumption) ?rest14b
        case hy14b => ((intro w hSw; (try dsimp only at hSw); go_simp) <;> with_reducible rfl)
        try simp only [List.getElem_toArray, List.getElem_cons_succ, List.getElem_cons_zero, Act.put, List.setIfInBounds_toArray, List.set_cons_zero, List.set_cons_succ]
        refine wpAnyH_take (i := 15) (v := undef) rfl (by kernel_rfl) (by kernel_rfl) (by kernel_rfl) (fun _ _ _ h => h) (Or.inr ⟨by rfl, rfl⟩) (by assumption) ?_
        try simp only [List.getElem_toArray, List.getElem_cons_succ, List.getElem_cons_zero, Act.put, List.setIfInBounds_toArray, List.set_cons_zero, List.set_cons_succ]
        refine wpAnyH_take (i := 16) (v := undef) rfl (by kernel_rfl) (by kernel_rfl) (by kernel_rfl) (fun _ _ _ h => h) (Or.inr ⟨by rfl, rfl⟩) (by assumption) ?_
        try simp only [List.getElem_toArray, List.getElem_cons_succ, List.getElem_cons_zero, Act.put, List.setIfInBounds_toArray, List.set_cons_zero, List.set_cons_succ]
        refine wpAnyH_take (i := 17) (v := undef) rfl (by kernel_rfl) (by kernel_rfl) (by kernel_rfl) (fun _ _ _ h => h) (Or.inr ⟨by rfl, rfl⟩) (by assumption) ?_
        try simp only [List.getElem_toArray, List.getElem_cons_succ, List.getElem_cons_zero, Act.put, List.setIfInBounds_toArray, List.set_cons_zero, List.set_cons_succ]
        refine wpAnyH_take (i := 18) (v := undef) rfl (by kernel_rfl) (by kernel_rfl) (by kernel_rfl) (fun _ _ _ h => h) (Or.inr ⟨by rfl, rfl⟩) (by assumption) ?_
        try simp only [List.getElem_toArray, List.getElem_cons_succ, List.getElem_cons_zero, Act.put, List.setIfInBounds_toArray, List.set_cons_zero, List.set_cons_succ]
        refine wpAnyH_take (i := 19) (v := undef) rfl (by kernel_rfl) (by kernel_rfl) (by kernel_rfl) (fun _ _ _ h => h) (Or.inr ⟨by rfl, rfl⟩) (by assumption) ?_
        try simp only [List.getElem_toArray, List.getElem_cons_succ, List.getElem_cons_zero, Act.put, List.setIfInBounds_toArray, List.set_cons_zero, List.set_cons_succ]
        refine wpAnyH_take (i := 20) (v := undef) rfl (by kernel_rfl) (by kernel_rfl) (by kernel_rfl) (fun _ _ _ h => h) (Or.inr ⟨by rfl, rfl⟩) (by assumption) ?_
        try simp only [List.getElem_toArray, List.getElem_cons_succ, List.getElem_cons_zero, Act.put, List.setIfInBounds_toArray, List.set_cons_zero, List.set_cons_succ]
        refine wpAnyH_take (i := 21) (v := undef) rfl (by kernel_rfl) (by kernel_rfl) (by kernel_rfl) (fun _ _ _ h => h) (Or.inr ⟨by rfl, rfl⟩) (by assumption) ?_
        try simp only [List.getElem_toArray, List.getElem_cons_succ, List.getElem_cons_zero, Act.put, List.setIfInBounds_toArray, List.set_cons_zero, List.set_cons_succ]
        refine wpAnyH_take (i := 22) (v := undef) rfl (by kernel_rfl) (by kernel_rfl) (by kernel_rfl) (fun _ _ _ h => h) (Or.inr ⟨by rfl, rfl⟩) (by assumption) ?_
        try simp only [List.getElem_toArray, List.getElem_cons_succ, List.getElem_cons_zero, Act.put, List.setIfInBounds_toArray, List.set_cons_zero, List.set_cons_succ]
        refine wpAnyH_take (i := 23) (v := undef) rfl (by kernel_rfl) (by kernel_rfl) (by kernel_rfl) (fun _ _ _ h => h) (Or.inr ⟨by rfl, rfl⟩) (by assumption) ?_
        try simp only [List.getElem_toArray, List.getElem_cons_succ, List.getElem_cons_zero, Act.put, List.setIfInBounds_toArray, List.set_cons_zero, List.set_cons_succ]
        refine wpAnyH_take (i := 24) (v := undef) rfl (by kernel_rfl) (by kernel_rfl) (by kernel_rfl) (fun _ _ _ h => h) (Or.inr ⟨by rfl, rfl⟩) (by assumption) ?_
        try simp only [List.getElem_toArray, List.getElem_cons_succ, List.getElem_cons_zero, Act.put, List.setIfInBounds_toArray, List.set_cons_zero, List.set_cons_succ]
        refine wpAnyH_take (i := 25) (v := undef) rfl (by kernel_rfl) (by kernel_rfl) (by kernel_rfl) (fun _ _ _ h => h) (Or.inr ⟨by rfl, rfl⟩) (by assumption) ?_
        try simp only [List.getElem_toArray, List.getElem_cons_succ, List.getElem_cons_zero, Act.put, List.setIfInBounds_toArray, List.set_cons_zero, List.set_cons_succ]
        refine wpAnyH_take (i := 26) (v := undef) rfl (by kernel_rfl) (by kernel_rfl) (by kernel_rfl) (fun _ _ _ h => h) (Or.inr ⟨by rfl, rfl⟩) (by assumption) ?_
        try simp only [List.getElem_toArray, List.getElem_cons_succ, List.getElem_cons_zero, Act.put, List.setIfInBounds_toArray, List.set_cons_zero, List.set_cons_succ]
        refine wpAnyH_take (i := 27) (v := undef) rfl (by kernel_rfl) (by kernel_rfl) (by kernel_rfl) (fun _ _ _ h => h) (Or.inr ⟨by rfl, rfl⟩) (by assumption) ?_
        try simp only [List.getElem_toArray, List.getElem_cons_succ, List.getElem_cons_zero, Act.put, List.setIfInBounds_toArray, List.set_cons_zero, List.set_cons_succ]
        refine wpAnyH_take (i := 28) (v := undef) rfl (by kernel_rfl) (by kernel_rfl) (by kernel_rfl) (fun _ _ _ h => h) (Or.inr ⟨by rfl, rfl⟩) (by assumption) ?_
        try simp only [List.getElem_toArray, List.getElem_cons_succ, List.getElem_cons_zero, Act.put, List.setIfInBounds_toArray, List.set_cons_zero, List.set_cons_succ]
        refine wpAnyH_take (i := 29) (v := undef) rfl (by kernel_rfl) (by kernel_rfl) (by kernel_rfl) (fun _ _ _ h => h) (Or.inr ⟨by rfl, rfl⟩) (by assumption) ?_
        try simp only [List.getElem_toArray, List.getElem_cons_succ, List.getElem_cons_zero, Act.put, List.setIfInBounds_toArray, List.set_cons_zero, List.set_cons_succ]
        refine wpAnyH_take (i := 30) (v := .bool true) rfl (by kernel_rfl) (by kernel_rfl) (by kernel_rfl) (fun _ _ _ h => h) (Or.inl ⟨by rfl, ?hy30b⟩) (by assumption) ?rest30b
        case hy30b => ((intro w hSw; (try dsimp only at hSw); go_simp) <;> with_reducible rfl)
        try simp only [List.getElem_toArray, List.getElem_cons_succ, List.getElem_cons_zero, Act.put, List.setIfInBounds_toArray, List.set_cons_zero, List.set_cons_succ]
        refine wpAnyH_done (by kernel_rfl) ?_ _
        have HN := Lib.hid (show ¬ pathOk N es from fun h => take_dup hlt (by rw [← HZ.out]; exact of_decide_eq_true HD.out.symm) h.2.1)
        go_wp2_with fail
        go_ret
        exact ⟨⟨3, rfl, .inr ⟨HN.out, fun _ => rfl, fun h => absurd HOK.out h⟩⟩, HB.out.drew⟩
      | false =>
        refine wpAnyH_take (i := 14) (v := ?vv14c) rfl (by kernel_rfl) (by kernel_rfl) (by kernel_rfl) (fun _ _ _ h => h) (Or.inl ⟨by rfl, ?hy14c⟩) (by assumption) ?rest14c
        case hy14c => ((intro w hSw; (try dsimp only at hSw); go_simp) <;> with_reducible rfl)
        try simp only [List.getElem_toArray, List.getElem_cons_succ, List.getElem_cons_zero, Act.put, List.setIfInBounds_toArray, List.set_cons_zero, List.set_cons_succ]
        refine wpAnyH_take (i := 15) (v := ?vv15c) rfl (by kernel_rfl) (by kernel_rfl) (by kernel_rfl) (fun _ _ _ h => h) (Or.inl ⟨by rfl, ?hy15c⟩) (by assumption) ?rest15c
        case hy15c => ((intro w hSw; (try dsimp only at hSw); go_simp) <;> with_reducible rfl)
        try simp only [List.getElem_toArray, List.getElem_cons_succ, List.getElem_cons_zero, Act.put, List.setIfInBounds_toArray, List.set_cons_zero, List.set_cons_succ]
        refine wpAnyH_take (i := 16) (v := ?vv16c) rfl (by kernel_rfl) (by kernel_rfl) (by kernel_rfl) (fun _ _ _ h => h) (Or.inl ⟨by rfl, ?hy16c⟩) (by assumption) ?rest16c
        case hy16c => ((intro w hSw; (try dsimp only at hSw); go_simp) <;> with_reducible rfl)
        try simp only [List.getElem_toArray, List.getElem_cons_succ, List.getElem_cons_zero, Act.put, List.setIfInBounds_toArray, List.set_cons_zero, List.set_cons_succ]
        refine wpAnyH_take (i := 17) (v := ?vv17c) rfl (by kernel_rfl) (by kernel_rfl) (by kernel_rfl) (fun _ _ _ h => h) (Or.inl ⟨by rfl, ?hy17c⟩) (by assumption) ?rest17c
        case hy17c => ((intro w hSw; (try dsimp only at hSw); go_simp) <;> with_reducible rfl)
        try simp only [List.getElem_toArray, List.getElem_cons_succ, List.getElem_cons_zero, Act.put, List.setIfInBounds_toArray, List.set_cons_zero, List.set_cons_succ]
        refine wpAnyH_take (i := 18) (v := ?vv18c) rfl (by kernel_rfl) (by kernel_rfl) (by kernel_rfl) (fun _ _ _ h => h) (Or.inl ⟨by rfl, ?hy18c⟩) (by assumption) ?rest18c
        case hy18c => ((intro w hSw; (try dsimp only at hSw); go_simp) <;> with_reducible rfl)
        try simp only [List.getElem_toArray, List.getElem_cons_succ, List.getElem_cons_zero, Act.put, List.setIfInBounds_toArray, List.set_cons_zero, List.set_cons_succ]
        refine wpAnyH_take (i := 19) (v := ?vv19c) rfl (by kernel_rfl) (by kernel_rfl) (by kernel_rfl) (fun _ _ _ h => h) (Or.inl ⟨by rfl, ?hy19c⟩) (by assumption) ?rest19c
        case hy19c => ((intro w hSw; (try dsimp only at hSw); go_simp) <;> with_reducible rfl)
        try simp only [List.getElem_toArray, List.getElem_cons_succ, List.getElem_cons_zero, Act.put, List.setIfInBounds_toArray, List.set_cons_zero, List.set_cons_succ]
        refine wpAnyH_take (i := 20) (v := ?vv20c) rfl (by kernel_rfl) (by kernel_rfl) (by kernel_rfl) (fun _ _ _ h => h) (Or.inl ⟨by rfl, ?hy20c⟩) (by assumption) ?rest20c
        case hy20c => ((intro w hSw; (try dsimp only at hSw); go_simp) <;> with_reducible rfl)
        try simp only [List.getElem_toArray, List.getElem_cons_succ, List.getElem_cons_zero, Act.put, List.setIfInBounds_toArray, List.set_cons_zero, List.set_cons_succ]
        refine wpAnyH_take (i := 21) (v := ?vv21c) rfl (by kernel_rfl) (by kernel_rfl) (by kernel_rfl) (fun _ _ _ h => h) (Or.inl ⟨by rfl, ?hy21c⟩) (by assumption) ?rest21c
        case hy21c => ((intro w hSw; (try dsimp only at hSw); go_simp) <;> with_reducible rfl)
        try simp only [List.getElem_toArray, List.getElem_cons_succ, List.getElem_cons_zero, Act.put, List.setIfInBounds_toArray, List.set_cons_zero, List.set_cons_succ]
        refine wpAnyH_take (i := 23) (v := ?vv23c) rfl (by kernel_rfl) (by kernel_rfl) (by kernel_rfl) (fun _ _ _ h => h) (Or.inl ⟨by rfl, ?hy23c⟩) (by assumption) ?rest23c
        case hy23c => ((intro w hSw; (try dsimp only at hSw); go_simp) <;> with_reducible rfl)
        try simp only [List.getElem_toArray, List.getElem_cons_succ, List.getElem_cons_zero, Act.put, List.setIfInBounds_toArray, List.set_cons_zero, List.set_cons_succ]
        refine wpAnyH_take (i := 24) (v := ?vv24c) rfl (by kernel_rfl) (by kernel_rfl) (by kernel_rfl) (fun _ _ _ h => h) (Or.inl ⟨by rfl, ?hy24c⟩) (by assumption) ?rest24c
        case hy24c => ((intro w hSw; (try dsimp only at hSw); go_simp) <;> with_reducible rfl)
        try simp only [List.getElem_toArray, List.getElem_cons_succ, List.getElem_cons_zero, Act.put, List.setIfInBounds_toArray, List.set_cons_zero, List.set_cons_succ]
        refine wpAnyH_take (i := 25) (v := ?vv25c) rfl (by kernel_rfl) (by kernel_rfl) (by kernel_rfl) (fun _ _ _ h => h) (Or.inl ⟨by rfl, ?hy25c⟩) (by assumption) ?rest25c
        case hy25c => ((intro w hSw; (try dsimp only at hSw); go_simp) <;> with_reducible rfl)
        try simp only [List.getElem_toArray, List.getElem_cons_succ, List.getElem_cons_zero, Act.put, List.setIfInBounds_toArray, List.set_cons_zero, List.set_cons_succ]
        refine wpAnyH_take (i := 26) (v := ?vv26c) rfl (by kernel_rfl) (by kernel_rfl) (by kernel_rfl) (fun _ _ _ h => h) (Or.inl ⟨by rfl, ?hy26c⟩) (by assumption) ?rest26c
        case hy26c => ((intro w hSw; (try dsimp only at hSw); go_simp) <;> with_reducible rfl)
        try simp only [List.getElem_toArray, List.getElem_cons_succ, List.getElem_cons_zero, Act.put, List.setIfInBounds_toArray, List.set_cons_zero, List.set_cons_succ]
        refine wpAnyH_take (i := 27) (v := ?vv27c) rfl (by kernel_rfl) (by kernel_rfl) (by kernel_rfl) (fun _ _ _ h => h) (Or.inl ⟨by rfl, ?hy27c⟩) (by assumption) ?rest27c
        case hy27c => ((intro w hSw; (try dsimp only at hSw); go_simp) <;> with_reducible rfl)
        try simp only [List.getElem_toArray, List.getElem_cons_succ, List.getElem_cons_zero, Act.put, List.setIfInBounds_toArray, List.set_cons_zero, List.set_cons_succ]
        refine wpAnyH_ready (rs := [22]) (by kernel_rfl) (by simp) ?_
        refine AllReadyH.cons rfl (fun K hK => ?_) AllReadyH.nil
        go_simp
        go_at_call 15
        refine (HRF.out _ (Below.refl _ _).drew).mono ?_
        rintro e w9 ⟨ys, rfl, hyl, hyo, hyr, hb9⟩
        have hce3 := (hb9.cell (World.block_lt_of_cell? _ _ hce1)).trans hce1
        have hce4 := (hb9.cell (World.block_lt_of_cell? _ _ hce2)).trans hce2
        refine hK.out _ _ ⟨hce3, hce4⟩ (fun hHeld => ?_)
        clear hK K
        try simp only [List.getElem_toArray, List.getElem_cons_succ, List.getElem_cons_zero, Act.put, List.setIfInBounds_toArray, List.set_cons_zero, List.set_cons_succ]
        have hc9 : w9.cell? ⟨wr.heap.size, x, none⟩ = some (.bool (ys.getD x false)) := (hyo.cellAt x (by omega)).trans (by simp [hyl, hxn])
        obtain ⟨d2, hd2⟩ : ∃ d2, d2 = ys.getD x false := ⟨_, rfl⟩
        rw [← hd2] at hc9
        have HD2 := Lib.hid hd2
        have HYR := Lib.hid (hyr x)
        have HB9 := Lib.hid (HB.out.drew.trans (hb9.mono HB.out.size))
        clear hd2 hyr hb9 hyo hyl
        refine wpAnyH_take (i := 28) (v := ?vv28c) rfl (by kernel_rfl) (by kernel_rfl) (by kernel_rfl) (fun _ _ _ h => h) (Or.inl ⟨by rfl, ?hy28c⟩) (by assumption) ?rest28c
        case hy28c => ((intro w hSw; (try dsimp only at hSw); go_simp) <;> with_reducible rfl)
        try simp only [List.getElem_toArray, List.getElem_cons_succ, List.getElem_cons_zero, Act.put, List.setIfInBounds_toArray, List.set_cons_zero, List.set_cons_succ]
        refine wpAnyH_ready (rs := [29]) (by kernel_rfl) (by simp) ?_
        refine AllReadyH.cons rfl (fun K hK => ?_) AllReadyH.nil
        go_simp
        refine hK.out _ _ ⟨hce3, hce4⟩ (fun hHeld => ?_)
        clear hK K
        try simp only [List.getElem_toArray, List.getElem_cons_succ, List.getElem_cons_zero, Act.put, List.setIfInBounds_toArray, List.set_cons_zero, List.set_cons_succ]
        cases d2 with
        | true =>
          refine wpAnyH_take (i := 30) (v := .bool true) rfl (by kernel_rfl) (by kernel_rfl) (by kernel_rfl) (fun _ _ _ h => h) (Or.inl ⟨by rfl, ?hy30c⟩) (by assumption) ?rest30c
          case hy30c => ((intro w hSw; (try dsimp only at hSw); go_simp) <;> with_reducible rfl)
          try simp only [List.getElem_toArray, List.getElem_cons_succ, List.getElem_cons_zero, Act.put, List.setIfInBounds_toArray, List.set_cons_zero, List.set_cons_succ]
          refine wpAnyH_done (by kernel_rfl) ?_ _
          have HN := Lib.hid (show ¬ pathOk N es from fun h => h.2.2 x y HXY.out (HYR.out.1 HD2.out.symm))
          go_wp2_with fail
          go_ret
          exact ⟨⟨3, rfl, .inr ⟨HN.out, fun _ => rfl, fun h => absurd HOK.out h⟩⟩, HB9.out⟩
        | false =>
          refine wpAnyH_take (i := 30) (v := .bool false) rfl (by kernel_rfl) (by kernel_rfl) (by kernel_rfl) (fun _ _ _ h => h) (Or.inl ⟨by rfl, ?hy30d⟩) (by assumption) ?rest30d
          case hy30d => ((intro w hSw; (try dsimp only at hSw); go_simp) <;> with_reducible rfl)
          try simp only [List.getElem_toArray, List.getElem_cons_succ, List.getElem_cons_zero, Act.put, List.setIfInBounds_toArray, List.set_cons_zero, List.set_cons_succ]
          refine wpAnyH_done (by kernel_rfl) ?_ _
          have HN := Lib.hid (take_nodup HND.out hlt (by rw [← HZ.out]; exact of_decide_eq_false HD.out.symm))
          have HA := Lib.hid (show ∀ j a b, j < q + 1 → (natE es)[j]? = some (a, b) → ¬ Rch (natE es) b a from fun j a b hj hab => by
            by_cases e : j = q
            · subst e; rw [HXN.out] at hab; cases hab
              intro hr
              have := HYR.out.2 hr
              unfold M at this
              rw [← HD2.out] at this; cases this
            · exact HAC.out j a b (by omega) hab)
          go_wp2_with fail
          go_roundw
          case rel => exact ⟨q + 1, by go_num, by omega, HN, HA, HB9⟩
          case measure => simp [intOf]; omega
    · obtain rfl : q = es.length := by omega
      have hnd := HND.out
      rw [List.take_length] at hnd
      have HP := Lib.hid (show PE N es 0 from .inl ⟨⟨HOK.out, hnd, fun a b hab => by
        obtain ⟨j, hj, hje⟩ := List.mem_iff_getElem.1 hab
        exact HAC.out j a b (by simpa [natE] using hj) (by rw [List.getElem?_eq_getElem hj, hje])⟩, rfl⟩)
      clear hnd
      go_wp2_with fail
      go_ret
      exact ⟨⟨0, rfl, HP.out⟩, HB.out⟩
end Go.Proofs.YtppbaiilhaagdaaDoor
