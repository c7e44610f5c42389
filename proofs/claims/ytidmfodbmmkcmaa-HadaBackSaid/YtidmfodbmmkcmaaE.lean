/- HadaBack: for every number and any two lists the law returns true and the inputs read as they did. No condition. -/
import Derived.Test.YtidmfodbmmkcmaaD
import Derived.ProofKit
import Derived.OpenShut
namespace Go.Proofs.Ytidmfodbmmkcmaa
open Go.RowKit Go.Mine Go.Mine.Hada
theorem wf_wrap_list {xs : List Int} (h : ∀ n ∈ xs, (Lit.int .i64 n).wf = true) (j : Nat) : wrap64 (xs.getD j 0) = xs.getD j 0 := by
  by_cases hj : j < xs.length
  · have := h (xs.getD j 0) (by simp [hj])
    simp only [Lit.wf, IntKind.min, IntKind.max, IntKind.signed, IntKind.bits] at this
    refine wrap_id _ ?_
    simp at this ⊢
    omega
  · have : xs.getD j 0 = 0 := by simp; rw [List.getElem?_eq_none (by omega)]; rfl
    rw [this]; exact wrap_id 0 (by decide)
theorem halved_then (k : Int) (x y : Value) (W : World) (h : ∀ w, Calls Try.prog 6 #[.int .i64 k, x] w fun e w' => (∃ c, e = .returned (.tuple #[.slice none 0 0, .iface 34 (.int .i64 c)])) ∧ w = w') (hx : ∃ a n c, x = .slice a n c) (hy : ∃ a n c, y = .slice a n c) :
    Calls Try.prog 3 #[.int .i64 k, x, y] W fun e w' => e = .returned (.bool true) ∧ Below W.heap.size W w' := by
  obtain ⟨a, n, c, rfl⟩ := hx
  obtain ⟨a2, n2, c2, rfl⟩ := hy
  have H := Lib.hid h; clear h
  go_enter Try.func3, Try.ntmps3
  go_wp2_with fail
  refine (halved_any W).mono ?_
  rintro e w1 ⟨rfl, hb1⟩
  go_wp2_with fail
  refine (H.out _).mono ?_
  rintro e w2 ⟨⟨c, rfl⟩, rfl⟩
  go_wp2_with fail
  go_ret
  exact ⟨rfl, hb1⟩
namespace hadaBack
theorem walk (W : World) (k : Int) (_w0 : (Lit.int .i64 k).wf = true) (a : Option Addr) (len cap : Nat) (xs : List Int) (hl : xs.length = len) (hx : IntsAt .i64 W a xs) (hw : ∀ n ∈ xs, (Lit.int .i64 n).wf = true) (_hm : len ≤ maxLen)
    (a2 : Option Addr) (len2 cap2 : Nat) (ys : List Int) (hl2 : ys.length = len2) (hy : IntsAt .i64 W a2 ys) (hw2 : ∀ n ∈ ys, (Lit.int .i64 n).wf = true) (_hm2 : len2 ≤ maxLen) :
    Calls Try.prog 3 #[.int .i64 k, .slice a len cap, .slice a2 len2 cap2] W fun e w' => e = .returned (.bool true) ∧ Below W.heap.size W w' := by
  subst hl
  subst hl2
  by_cases h : k < 0 ∨ 6 < k
  · exact halved_then k _ _ W (fun w => (effects_range k _ a xs.length cap w rfl h).mono fun e w' ⟨h1, h2⟩ => ⟨⟨1, h1⟩, h2⟩) ⟨_, _, _, rfl⟩ ⟨_, _, _, rfl⟩
  · obtain ⟨K, rfl⟩ := Int.eq_ofNat_of_zero_le (show 0 ≤ k by omega)
    by_cases hx2 : xs.length = 2 ^ K
    · exact back_law K xs a cap ys a2 cap2 W hx hy (by omega) hx2 (wf_wrap_list hw) (wf_wrap_list hw2)
    · exact halved_then K _ _ W (fun w => (effects_form K a xs.length cap w (by omega) hx2).mono fun e w' ⟨h1, h2⟩ => ⟨⟨3, h1⟩, h2⟩) ⟨_, _, _, rfl⟩ ⟨_, _, _, rfl⟩
end hadaBack
namespace hadaBack
open Go.ChangeShapes Go.WideShapes Go.ChangeAt
theorem own : ownKnob Try.prog.godebug = none := by kernel_rfl
theorem laidOut : laidOutB Try.prog = true := by kernel_rfl
set_option maxRecDepth 100000 in
theorem lifted (os : Os) (started : os.Started) (H : Type) (enc : TypeId × Value → H) :
    ReturnsInHanded {} Try.checked os 3 .any (Rows.hadaBackSpec.pre6 enc Try.prog Try.f3 Rows.hadaBackRow.domain false) (Rows.hadaBackSpec.post enc Try.prog Try.f3 false true false false) := by
  refine returnsInHanded_of_change (C := Try.checked) own started (by kernel_rfl) Try.func3
    (ChangeSpec.witness6 (enc := enc) (C := Try.checked) false ⟨#[], #[.int .i64 0, .slice none 0 0, .slice none 0 0], []⟩ 8 (by kernel_rfl) (by kernel_rfl) (by kernel_rfl) (by kernel_rfl)) ?_
  intro W base args ds gs before hval0 hW hcnd _
  have hval : ∀ (j : Nat) t v, Try.f3.params[j]? = some t → args[j]? = some v → Value.okWide Try.prog W .any base t v := hval0
  have hW' := hW
  obtain ⟨p, q, hA0, hV, rfl, hfz, hnd⟩ := hW
  have hA : DataW.TrodAll enc Try.prog W 0 (fun _ => true) true Try.f3.params.toList args.toList ds p := hA0
  rw [Try.params3] at hA hval
  obtain ⟨v0, vs0, d0, ds0, p0, q0, hargs, rfl, rfl, h0, r0⟩ := trodAll_cons hA
  obtain ⟨v1, vs1, d1, ds1, p1, q1, rfl, rfl, rfl, h1, r1⟩ := trodAll_cons r0
  obtain ⟨v2, vs2, d2, ds2, p2, q2, rfl, rfl, rfl, h2, r2⟩ := trodAll_cons r1
  obtain ⟨rfl, rfl, rfl⟩ := trodAll_nil r2
  obtain rfl : args = #[v0, v1, v2] := by cases args; simp_all
  obtain ⟨rfl, rfl⟩ := trodVars_none hV
  have k0 := h0
  have lt0 : ∀ x ∈ p0, x.block < W.heap.size := by obtain ⟨m, hm⟩ := k0; exact DataW.trod_lt m _ _ _ hm
  have k1 := h1
  have lt1 : ∀ x ∈ p1, x.block < W.heap.size := by obtain ⟨m, hm⟩ := k1; exact DataW.trod_lt m _ _ _ hm
  have k2 := h2
  have lt2 : ∀ x ∈ p2, x.block < W.heap.size := by obtain ⟨m, hm⟩ := k2; exact DataW.trod_lt m _ _ _ hm
  obtain ⟨a0, rfl, rfl, rfl, w0⟩ := open_int Try.underlying3 (hval 0 3 v0 rfl rfl) h0
  obtain ⟨a1, len1, cap1, rfl⟩ := okWide_slice Try.underlying22 (hval 1 22 v1 rfl rfl)
  obtain ⟨z1, l1, x1, w1, m1⟩ : ∃ zs : List Int, zs.length = len1 ∧ Go.Mine.IntsAt .i64 W a1 zs ∧ (∀ n ∈ zs, (Lit.int .i64 n).wf = true) ∧ len1 ≤ maxLen := by
    obtain ⟨fuel, hf⟩ := h1
    exact Go.Mine.ints_open Try.underlying22 Try.underlying3 (by kernel_rfl) hf
  obtain ⟨a2, len2, cap2, rfl⟩ := okWide_slice Try.underlying22 (hval 2 22 v2 rfl rfl)
  obtain ⟨z2, l2, x2, w2, m2⟩ : ∃ zs : List Int, zs.length = len2 ∧ Go.Mine.IntsAt .i64 W a2 zs ∧ (∀ n ∈ zs, (Lit.int .i64 n).wf = true) ∧ len2 ≤ maxLen := by
    obtain ⟨fuel, hf⟩ := h2
    exact Go.Mine.ints_open Try.underlying22 Try.underlying3 (by kernel_rfl) hf
  clear hA0 hval0
  refine (walk W a0 w0 a1 len1 cap1 z1 l1 x1 w1 m1 a2 len2 cap2 z2 l2 x2 w2 m2).mono fun e W' ⟨he, bel⟩ => ?_
  subst he
  exact ⟨_, rfl, _, _, _, [], _, [], hW', trodAll_mk1 (shut_bool Try.underlying4 _), (trodAll_cons_mk (Below.trod laidOut (by kernel_rfl) (of_decide_eq_true (by kernel_rfl)) k0 bel lt0) (trodAll_cons_mk (Below.trod laidOut (by kernel_rfl) (of_decide_eq_true (by kernel_rfl)) k1 bel lt1) (trodAll_cons_mk (Below.trod laidOut (by kernel_rfl) (of_decide_eq_true (by kernel_rfl)) k2 bel lt2) trodAll_mk0))), rfl, bel.frame _, fun h => by cases h⟩

theorem proved : Rows.HadaBackSaid :=
  OpenClaim.holds_of_wide 3 Try.f3 rfl rfl rfl rfl rfl rfl rfl ⟨rfl, rfl, rfl, rfl, rfl⟩ rfl rfl rfl rfl rfl (by kernel_rfl) Try.func3 (by kernel_rfl)
    (of_decide_eq_true (by kernel_rfl)) (by unfold Func.isWrapper; first | (rw [if_pos (by decide +kernel)]; kernel_rfl) | (rw [if_neg (by decide +kernel)]; exact ⟨rfl, rfl⟩))
    (fun os started H enc _ => lifted os started H enc)
#print axioms proved
end hadaBack
end Go.Proofs.Ytidmfodbmmkcmaa
