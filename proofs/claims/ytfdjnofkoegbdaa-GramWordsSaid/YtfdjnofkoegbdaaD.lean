/- GramWords: words that are told are made, and rise; any other one of as few letters is not. No condition. -/
import Derived.Test.YtfdjnofkoegbdaaC
import Derived.OpenShut
import Derived.ProofKit
namespace Go.Proofs.Ytfdjnofkoegbdaa
open Go.RowKit Go.Mine
namespace gramWords
theorem walk (W : World) (a : Option Addr) (len cap : Nat) (g : List (List (List Int))) (hl : g.length = len) (hx : GridAt W a g) (_hw : ∀ rs ∈ g, ∀ r ∈ rs, ∀ z ∈ r, (Lit.int .i64 z).wf = true) (hm : len ≤ maxLen) (_hn : a = none → len = 0) (_hc : len ≤ cap)
    (n : Int) (_wn : (Lit.int .i64 n).wf = true)
    (a2 : Option Addr) (len2 cap2 : Nat) (ws : List Int) (hl2 : ws.length = len2) (hx2 : IntsAt .i64 W a2 ws) (_hw2 : ∀ z ∈ ws, (Lit.int .i64 z).wf = true) (hm2 : len2 ≤ maxLen) (_hn2 : a2 = none → len2 = 0) (_hc2 : len2 ≤ cap2) :
    Calls Try.prog 4 #[.slice a len cap, .int .i64 n, .slice a2 len2 cap2] W fun e w' => e = .returned (.bool true) ∧ Below W.heap.size W w' := by
  subst hl hl2
  exact gramWords_walk g n ws a a2 cap cap2 W hx hm hx2 hm2
end gramWords
namespace gramWords
open Go.ChangeShapes Go.WideShapes Go.ChangeAt
theorem own : ownKnob Try.prog.godebug = none := by kernel_rfl
theorem laidOut : laidOutB Try.prog = true := by kernel_rfl
set_option maxRecDepth 100000 in
theorem lifted (os : Os) (started : os.Started) (H : Type) (enc : TypeId × Value → H) :
    ReturnsInHanded {} Try.checked os 4 .any (Rows.gramWordsSpec.pre6 enc Try.prog Try.f4 Rows.gramWordsRow.domain false) (Rows.gramWordsSpec.post enc Try.prog Try.f4 false true false false) := by
  refine returnsInHanded_of_change (C := Try.checked) own started (by kernel_rfl) Try.func4
    (ChangeSpec.witness6 (enc := enc) (C := Try.checked) false ⟨#[], #[.slice none 0 0, .int .i64 0, .slice none 0 0], []⟩ 8 (by kernel_rfl) (by kernel_rfl) (by kernel_rfl) (by kernel_rfl)) ?_
  intro W base args ds gs before hval0 hW hcnd _
  have hval : ∀ (j : Nat) t v, Try.f4.params[j]? = some t → args[j]? = some v → Value.okWide Try.prog W .any base t v := hval0
  have hW' := hW
  obtain ⟨p, q, hA0, hV, rfl, hfz, hnd⟩ := hW
  have hA : DataW.TrodAll enc Try.prog W 0 (fun _ => true) true Try.f4.params.toList args.toList ds p := hA0
  rw [Try.params4] at hA hval
  obtain ⟨v0, vs0, d0, ds0, p0, q0, hargs, rfl, rfl, h0, r0⟩ := trodAll_cons hA
  obtain ⟨v1, vs1, d1, ds1, p1, q1, rfl, rfl, rfl, h1, r1⟩ := trodAll_cons r0
  obtain ⟨v2, vs2, d2, ds2, p2, q2, rfl, rfl, rfl, h2, r2⟩ := trodAll_cons r1
  obtain ⟨rfl, rfl, rfl⟩ := trodAll_nil r2
  obtain rfl : args = #[v0, v1, v2] := by cases args; simp_all
  obtain ⟨rfl, rfl⟩ := trodVars_none hV
  have k0 := h0
  have lt0 : ∀ x ∈ p0, x.block < W.heap.size := by obtain ⟨m, hm⟩ := k0; exact DataW.trod_lt m _ _ _ hm
  have k1 := h1
  have lt1 : ∀ x ∈ p1, x.block < W.heap.size := by obtain ⟨m, hm⟩ := k1; exact DataW.trod_lt m _ _ _ hm
  have k2 := h2
  have lt2 : ∀ x ∈ p2, x.block < W.heap.size := by obtain ⟨m, hm⟩ := k2; exact DataW.trod_lt m _ _ _ hm
  obtain ⟨a0, len0, cap0, rfl⟩ := okWide_slice Try.underlying22 (hval 0 22 v0 rfl rfl)
  obtain ⟨z0, l0, x0, w0, m0, n0, c0⟩ : ∃ zs : List (List (List Int)), zs.length = len0 ∧ Go.Mine.GridAt W a0 zs ∧ (∀ rs ∈ zs, ∀ r ∈ rs, ∀ z ∈ r, (Lit.int .i64 z).wf = true) ∧ len0 ≤ maxLen ∧ (a0 = none → len0 = 0) ∧ len0 ≤ cap0 := by
    obtain ⟨fuel, hf⟩ := h0
    exact Go.Mine.grid_open Try.underlying22 Try.underlying28 Try.underlying23 Try.underlying3 (by kernel_rfl) (by kernel_rfl) (by kernel_rfl) hf
  obtain ⟨a1, rfl, rfl, rfl, w1⟩ := open_int Try.underlying3 (hval 1 3 v1 rfl rfl) h1
  obtain ⟨a2, len2, cap2, rfl⟩ := okWide_slice Try.underlying23 (hval 2 23 v2 rfl rfl)
  obtain ⟨z2, l2, x2, w2, m2, n2, c2⟩ : ∃ zs : List Int, zs.length = len2 ∧ Go.Mine.IntsAt .i64 W a2 zs ∧ (∀ n ∈ zs, (Lit.int .i64 n).wf = true) ∧ len2 ≤ maxLen ∧ (a2 = none → len2 = 0) ∧ len2 ≤ cap2 := by
    obtain ⟨fuel, hf⟩ := h2
    exact Go.Mine.ints_open2 Try.underlying23 Try.underlying3 (by kernel_rfl) hf
  clear hA0 hval0
  refine (walk W a0 len0 cap0 z0 l0 x0 w0 m0 n0 c0 a1 w1 a2 len2 cap2 z2 l2 x2 w2 m2 n2 c2).mono fun e W' ⟨he, bel⟩ => ?_
  subst he
  exact ⟨_, rfl, _, _, _, [], _, [], hW', trodAll_mk1 (shut_bool Try.underlying4 _), (trodAll_cons_mk (Below.trod laidOut (by kernel_rfl) (of_decide_eq_true (by kernel_rfl)) k0 bel lt0) (trodAll_cons_mk (Below.trod laidOut (by kernel_rfl) (of_decide_eq_true (by kernel_rfl)) k1 bel lt1) (trodAll_cons_mk (Below.trod laidOut (by kernel_rfl) (of_decide_eq_true (by kernel_rfl)) k2 bel lt2) trodAll_mk0))), rfl, bel.frame _, fun h => by cases h⟩

theorem proved : Rows.GramWordsSaid :=
  OpenClaim.holds_of_wide 4 Try.f4 rfl rfl rfl rfl rfl rfl rfl ⟨rfl, rfl, rfl, rfl, rfl⟩ rfl rfl rfl rfl rfl (by kernel_rfl) Try.func4 (by kernel_rfl)
    (of_decide_eq_true (by kernel_rfl)) (by unfold Func.isWrapper; first | (rw [if_pos (by decide +kernel)]; kernel_rfl) | (rw [if_neg (by decide +kernel)]; exact ⟨rfl, rfl⟩))
    (fun os started H enc _ => lifted os started H enc)
#print axioms proved
end gramWords
end Go.Proofs.Ytfdjnofkoegbdaa
