/- HadaRows: for every three numbers the law returns true and the inputs read as they did. No condition. -/
import Derived.Test.YtidmfodbmmkcmaaI
import Derived.ProofKit
import Derived.OpenShut
namespace Go.Proofs.Ytidmfodbmmkcmaa
open Go.RowKit Go.Mine Go.Mine.Hada
set_option maxRecDepth 100000 in
theorem rows_bad (k i j : Int) (W : World) (h : k < 0 ∨ 6 < k) : Calls Try.prog 4 #[.int .i64 k, .int .i64 i, .int .i64 j] W fun e w' => e = .returned (.bool true) ∧ Below W.heap.size W w' := by
  have H := Lib.hid (fun w => table_bad k w h); clear h
  go_enter Try.func4, Try.ntmps4
  go_wp2_with fail
  refine (halved_any W).mono ?_
  rintro e w1 ⟨rfl, hb1⟩
  go_wp2_with fail
  refine (H.out _).mono ?_
  rintro e w2 ⟨rfl, rfl⟩
  go_wp2_with fail
  go_ret
  exact ⟨by simp, hb1⟩
set_option maxRecDepth 100000 in
set_option maxHeartbeats 600000 in
theorem rows_out (k n : Nat) (i j : Int) (W : World) (hk : k ≤ 6) (hn : n = 2 ^ k) (h : i < 0 ∨ n ≤ i ∨ j < 0 ∨ n ≤ j) : Calls Try.prog 4 #[.int .i64 k, .int .i64 i, .int .i64 j] W fun e w' => e = .returned (.bool true) ∧ Below W.heap.size W w' := by
  have HT := Lib.hid (fun w => table_ok k n w hk hn)
  have hn64 := pow_le hk
  rw [← hn] at hn64
  clear hn
  have H := Lib.hid h; clear h
  go_enter Try.func4, Try.ntmps4
  go_wp2_with fail
  refine (halved_any W).mono ?_
  rintro e w1 ⟨rfl, hb1⟩
  go_wp2_with fail
  refine (HT.out _).mono ?_
  rintro e w2 ⟨g, cap, rfl, _, hb2⟩
  have HB := Lib.hid (hb1.trans (hb2.mono hb1.size))
  by_cases h1 : i < 0
  · go_wp2_with fail
    go_ret
    exact ⟨by simp, HB.out⟩
  · by_cases h2 : n ≤ i
    · go_wp2_with fail
      go_ret
      exact ⟨by simp, HB.out⟩
    · by_cases h3 : j < 0
      · go_wp2_with fail
        go_ret
        exact ⟨by simp, HB.out⟩
      · have h4 : n ≤ j := by have := H.out; omega
        go_wp2_with fail
        go_ret
        exact ⟨by simp, HB.out⟩
namespace hadaRows
theorem walk (W : World) (k : Int) (_w0 : (Lit.int .i64 k).wf = true) (i : Int) (_w1 : (Lit.int .i64 i).wf = true) (j : Int) (_w2 : (Lit.int .i64 j).wf = true) :
    Calls Try.prog 4 #[.int .i64 k, .int .i64 i, .int .i64 j] W fun e w' => e = .returned (.bool true) ∧ Below W.heap.size W w' := by
  by_cases h : k < 0 ∨ 6 < k
  · exact rows_bad k i j W h
  · obtain ⟨K, rfl⟩ := Int.eq_ofNat_of_zero_le (show 0 ≤ k by omega)
    obtain ⟨n, hn⟩ : ∃ n, n = 2 ^ K := ⟨_, rfl⟩
    by_cases h2 : i < 0 ∨ n ≤ i ∨ j < 0 ∨ n ≤ j
    · exact rows_out K n i j W (by omega) hn h2
    · obtain ⟨I, rfl⟩ := Int.eq_ofNat_of_zero_le (show 0 ≤ i by omega)
      obtain ⟨J, rfl⟩ := Int.eq_ofNat_of_zero_le (show 0 ≤ j by omega)
      exact rows_in K n I J W (by omega) hn (by omega) (by omega)
end hadaRows
namespace hadaRows
open Go.ChangeShapes Go.WideShapes Go.ChangeAt
theorem own : ownKnob Try.prog.godebug = none := by kernel_rfl
theorem laidOut : laidOutB Try.prog = true := by kernel_rfl
set_option maxRecDepth 100000 in
theorem lifted (os : Os) (started : os.Started) (H : Type) (enc : TypeId × Value → H) :
    ReturnsInHanded {} Try.checked os 4 .any (Rows.hadaRowsSpec.pre6 enc Try.prog Try.f4 Rows.hadaRowsRow.domain false) (Rows.hadaRowsSpec.post enc Try.prog Try.f4 false true false false) := by
  refine returnsInHanded_of_change (C := Try.checked) own started (by kernel_rfl) Try.func4
    (ChangeSpec.witness6 (enc := enc) (C := Try.checked) false ⟨#[], #[.int .i64 0, .int .i64 0, .int .i64 0], []⟩ 8 (by kernel_rfl) (by kernel_rfl) (by kernel_rfl) (by kernel_rfl)) ?_
  intro W base args ds gs before hval0 hW hcnd _
  have hval : ∀ (j : Nat) t v, Try.f4.params[j]? = some t → args[j]? = some v → Value.okWide Try.prog W .any base t v := hval0
  have hW' := hW
  obtain ⟨p, q, hA0, hV, rfl, hfz, hnd⟩ := hW
  have hA : DataW.TrodAll enc Try.prog W 0 (fun _ => true) true Try.f4.params.toList args.toList ds p := hA0
  rw [Try.params4] at hA hval
  obtain ⟨v0, vs0, d0, ds0, p0, q0, hargs, rfl, rfl, h0, r0⟩ := trodAll_cons hA
  obtain ⟨v1, vs1, d1, ds1, p1, q1, rfl, rfl, rfl, h1, r1⟩ := trodAll_cons r0
  obtain ⟨v2, vs2, d2, ds2, p2, q2, rfl, rfl, rfl, h2, r2⟩ := trodAll_cons r1
  obtain ⟨rfl, rfl, rfl⟩ := trodAll_nil r2
  obtain rfl : args = #[v0, v1, v2] := by cases args; simp_all
  obtain ⟨rfl, rfl⟩ := trodVars_none hV
  have k0 := h0
  have lt0 : ∀ x ∈ p0, x.block < W.heap.size := by obtain ⟨m, hm⟩ := k0; exact DataW.trod_lt m _ _ _ hm
  have k1 := h1
  have lt1 : ∀ x ∈ p1, x.block < W.heap.size := by obtain ⟨m, hm⟩ := k1; exact DataW.trod_lt m _ _ _ hm
  have k2 := h2
  have lt2 : ∀ x ∈ p2, x.block < W.heap.size := by obtain ⟨m, hm⟩ := k2; exact DataW.trod_lt m _ _ _ hm
  obtain ⟨a0, rfl, rfl, rfl, w0⟩ := open_int Try.underlying3 (hval 0 3 v0 rfl rfl) h0
  obtain ⟨a1, rfl, rfl, rfl, w1⟩ := open_int Try.underlying3 (hval 1 3 v1 rfl rfl) h1
  obtain ⟨a2, rfl, rfl, rfl, w2⟩ := open_int Try.underlying3 (hval 2 3 v2 rfl rfl) h2
  clear hA0 hval0
  refine (walk W a0 w0 a1 w1 a2 w2).mono fun e W' ⟨he, bel⟩ => ?_
  subst he
  exact ⟨_, rfl, _, _, _, [], _, [], hW', trodAll_mk1 (shut_bool Try.underlying4 _), (trodAll_cons_mk (Below.trod laidOut (by kernel_rfl) (of_decide_eq_true (by kernel_rfl)) k0 bel lt0) (trodAll_cons_mk (Below.trod laidOut (by kernel_rfl) (of_decide_eq_true (by kernel_rfl)) k1 bel lt1) (trodAll_cons_mk (Below.trod laidOut (by kernel_rfl) (of_decide_eq_true (by kernel_rfl)) k2 bel lt2) trodAll_mk0))), rfl, bel.frame _, fun h => by cases h⟩

theorem proved : Rows.HadaRowsSaid :=
  OpenClaim.holds_of_wide 4 Try.f4 rfl rfl rfl rfl rfl rfl rfl ⟨rfl, rfl, rfl, rfl, rfl⟩ rfl rfl rfl rfl rfl (by kernel_rfl) Try.func4 (by kernel_rfl)
    (of_decide_eq_true (by kernel_rfl)) (by unfold Func.isWrapper; first | (rw [if_pos (by decide +kernel)]; kernel_rfl) | (rw [if_neg (by decide +kernel)]; exact ⟨rfl, rfl⟩))
    (fun os started H enc _ => lifted os started H enc)
#print axioms proved
end hadaRows
end Go.Proofs.Ytidmfodbmmkcmaa
