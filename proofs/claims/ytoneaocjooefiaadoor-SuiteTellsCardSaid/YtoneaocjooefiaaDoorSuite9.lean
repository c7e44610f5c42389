/- assayerref2.Ones, PlacesOf. No conditions. -/
import Derived.Test.YtoneaocjooefiaaDoorSuite8
namespace Go.Proofs.YtoneaocjooefiaaDoor
open Go.RowKit Go.Mine Go.Mine.Suite

theorem so_emod (t i : Nat) : ((((t : Nat) : Int) / 2 ^ i) % 2 == 1) = t.testBit i := by
  have h : (((t : Nat) : Int) / 2 ^ i) = ((t / 2 ^ i : Nat) : Int) := by rw [Int.natCast_ediv, Int.natCast_pow]; rfl
  rw [h, Nat.testBit_eq_decide_div_mod_eq, Bool.eq_iff_iff, beq_iff_eq, decide_eq_true_eq]
  omega
def onesK (x k : Nat) : Nat := (List.range k).countP fun j => x.testBit j
theorem onesK_succ (x k : Nat) : onesK x (k + 1) = onesK x k + if x.testBit k = true then 1 else 0 := by
  unfold onesK
  rw [List.range_succ, List.countP_append, List.countP_singleton]
theorem onesK_le (x k : Nat) : onesK x k ≤ k := by
  have := List.countP_le_length (p := fun j => x.testBit j) (l := List.range k)
  simpa [onesK] using this
set_option maxHeartbeats 1000000 in
theorem qones_any (x : Nat) (_hx : x < 4294967296) (W : World) : Calls Tryd.prog 13 #[.int .u32 x] W fun e w' => e = .returned (.int .i64 (ones x)) ∧ W = w' := by
  go_enter Tryd.func13, Tryd.ntmps13
  go_wp2_with fail
  go_loop [3, 4] (fun nv kv => ∃ k n : Nat, kv = .int .i64 k ∧ nv = .int .i64 n ∧ k ≤ 32 ∧ n ≤ k ∧ RowKit.Hid (n = onesK x k)) (fun _ kv => 32 - (intOf kv).toNat)
  case atStart => exact ⟨0, 0, rfl, rfl, by omega, by omega, Lib.hid rfl⟩
  case round =>
    obtain ⟨k, n, rfl, rfl, hk, hn, hnk⟩ := hrel
    by_cases hlt : k < 32
    · have hs1 := so_eq x k
      have hs2 := so_emod x k
      have HS := Lib.hid (onesK_succ x k)
      rw [← hnk.out] at HS
      obtain ⟨b, hb⟩ : ∃ b, x.testBit k = b := ⟨_, rfl⟩
      rw [hb] at hs1 hs2 HS
      clear hb hnk
      cases b
      · go_wp2_with fail
        go_round
        case rel => exact ⟨k + 1, n, by go_num, rfl, by omega, by omega, Lib.hid (by rw [HS.out]; rfl)⟩
        case measure => simp [intOf]; omega
      · go_wp2_with fail
        go_round
        case rel => exact ⟨k + 1, n + 1, by go_num, by go_num, by omega, by omega, Lib.hid (by rw [HS.out]; rfl)⟩
        case measure => simp [intOf]; omega
    · obtain rfl : k = 32 := by omega
      go_wp2_with fail
      go_ret
      exact ⟨by rw [hnk.out]; rfl, rfl⟩
def placesK (v k : Nat) : List Nat := (List.range k).filter fun i => v.testBit i
theorem placesK_succ (v k : Nat) : placesK v (k + 1) = placesK v k ++ (if v.testBit k = true then [k] else []) := by
  unfold placesK
  rw [List.range_succ, List.filter_append]
  simp only [List.filter_cons, List.filter_nil]
theorem placesK_len (v k : Nat) : (placesK v k).length ≤ k := by
  have := List.length_filter_le (fun i => v.testBit i) (List.range k)
  simpa [placesK] using this
set_option maxHeartbeats 1000000 in
theorem places_any (v : Nat) (hv : v < 4294967296) (W : World) : Calls Tryd.prog 12 #[.int .i64 v] W fun e w' => (∃ pv, e = .returned pv ∧ OwnIs w' W.heap.size pv (cast (places v))) ∧ Below W.heap.size W w' := by
  obtain ⟨i0, hi0, hz0, hz1, hz2⟩ := info_parts info3
  go_enter Tryd.func12, Tryd.ntmps12
  go_wp2_with fail
  go_loopw [3, 4] (fun v0 kv wr => ∃ k : Nat, kv = .int .i64 k ∧ k ≤ 32 ∧ OwnIs wr W.heap.size v0 (cast (placesK v k)) ∧ Below W.heap.size W wr) (fun _ kv _ => 32 - (intOf kv).toNat)
  case atStart => exact ⟨0, rfl, by omega, ⟨_, rfl, World.ownsRow_nil _ _ _ _⟩, Below.refl _ _⟩
  case round =>
    obtain ⟨k, rfl, hk, ⟨pv, rfl, ho⟩, hb⟩ := hrel
    by_cases hlt : k < 32
    · have HSO := Lib.hid (so2_any v k hv hlt wr)
      have HS := Lib.hid (placesK_succ v k)
      have hpl := placesK_len v k
      have hcl : (cast (placesK v k)).length ≤ 32 := by rw [cast_len]; omega
      have HO := Lib.hid ho
      have HB := Lib.hid hb
      have hsz := hb.size
      obtain ⟨b, hvb⟩ : ∃ b, v.testBit k = b := ⟨_, rfl⟩
      rw [hvb] at HSO HS
      clear hvb ho hb
      cases b
      · have HE := Lib.hid (show placesK v (k + 1) = placesK v k by rw [HS.out]; simp)
        go_wp2_with fail
        refine HSO.out.mono ?_
        rintro e w' ⟨rfl, rfl⟩
        go_wp2_with fail
        go_roundw
        case rel => exact ⟨k + 1, by go_num, by omega, ⟨_, rfl, by rw [HE.out]; exact HO.out⟩, HB.out⟩
        case measure => simp [intOf]; omega
      · have HEM := Lib.hid (show (cast (placesK v k)).map (Value.int .i64) ++ [.int .i64 k] = (cast (placesK v (k + 1))).map (Value.int .i64) by rw [HS.out]; simp [cast])
        have HEL := Lib.hid (show (cast (placesK v k)).length + 1 = (cast (placesK v (k + 1))).length by rw [HS.out]; simp [cast])
        go_wp2_with fail
        refine HSO.out.mono ?_
        rintro e w' ⟨rfl, rfl⟩
        go_wp2_with (at_builtin; refine wpList_push _ rfl _ _ 24 rfl W.heap.size 3 i0 (.int .i64 0) 1 8 Tryd.underlying24 hi0 hz0 hz1 hz2 rfl (by decide) _ _ _ rfl (HO.out.alloc _) ⟨wr.heap.size, 0, none⟩ 1 [.int .i64 k] rfl rfl (cell_one_new _ _ _) (one1 _ _) (by unfold maxLen; omega) (by omega) (by simp; omega) ?_)
        intro g cap w7 ho7 hg7
        have hb7 := (HB.out.alloc hsz (.cells #[.int .i64 k] 3)).grown hg7 (by simp; omega) (fun k hk => (HO.out.lt k hk).1)
        rw [HEM.out, HEL.out] at ho7
        have HO7 := Lib.hid ho7
        have HB7 := Lib.hid hb7
        have hel := HEL.out
        clear ho7 hb7 hg7
        go_wp2_with fail
        go_roundw
        case rel => exact ⟨k + 1, by go_num, by omega, ⟨_, rfl, by rw [← HEL.out] at HO7 ⊢; exact HO7.out⟩, HB7.out⟩
        case measure => simp [intOf]; omega
    · obtain rfl : k = 32 := by omega
      have HO := Lib.hid (show wr.ownsRow W.heap.size 3 1 pv (cast (places v)).length ((cast (places v)).map (Value.int .i64)) from ho)
      obtain ⟨po, pc, rfl⟩ := owns_shape ho
      clear ho
      go_wp2_with fail
      go_ret
      exact ⟨⟨_, rfl, _, rfl, HO.out⟩, hb⟩
end Go.Proofs.YtoneaocjooefiaaDoor
