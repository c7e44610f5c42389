/- TopPaths: of the paths of a graph, one by one, each is another one; and they go just those edges that lie on some way from the first node to the last one. No condition. -/
import Derived.Test.YtppbaiilhaagdaaTopW
import Derived.Test.YtppbaiilhaagdaaPairsC
import Derived.OpenShut
import Derived.ProofKit
namespace Go.Proofs.Ytppbaiilhaagdaa
open Go.RowKit Go.Mine Go.Mine.Path
namespace topPaths
theorem walk (W : World) (n : Int) (_w0 : (Lit.int .i64 n).wf = true) (lo : Option Addr) (ll lc : Nat) (es : List (Int × Int)) (hl : es.length = ll) (hx : PairsAt W lo es) (_hwf : ∀ e ∈ es, (Lit.int .i64 e.1).wf = true ∧ (Lit.int .i64 e.2).wf = true) (hm : ll ≤ maxLen) (_hn : lo = none → ll = 0) (hc : lo ≠ none → ll ≤ lc) :
    Calls Try.prog 3 #[.int .i64 n, .slice lo ll lc] W fun e w' => e = .returned (.bool true) ∧ Below W.heap.size W w' := by
  subst hl
  exact topPaths_any n es lo lc W hx hm hc
end topPaths
namespace topPaths
open Go.ChangeShapes Go.WideShapes Go.ChangeAt
theorem own : ownKnob Try.prog.godebug = none := by kernel_rfl
theorem laidOut : laidOutB Try.prog = true := by kernel_rfl
set_option maxRecDepth 100000 in
theorem lifted (os : Os) (started : os.Started) (H : Type) (enc : TypeId × Value → H) :
    ReturnsInHanded {} Try.checked os 3 .any (Rows.topPathsSpec.pre6 enc Try.prog Try.f3 Rows.topPathsRow.domain false) (Rows.topPathsSpec.post enc Try.prog Try.f3 false true false false) := by
  refine returnsInHanded_of_change (C := Try.checked) own started (by kernel_rfl) Try.func3
    (ChangeSpec.witness6 (enc := enc) (C := Try.checked) false ⟨#[], #[.int .i64 0, .slice none 0 0], []⟩ 8 (by kernel_rfl) (by kernel_rfl) (by kernel_rfl) (by kernel_rfl)) ?_
  intro W base args ds gs before hval0 hW hcnd _
  have hval : ∀ (j : Nat) t v, Try.f3.params[j]? = some t → args[j]? = some v → Value.okWide Try.prog W .any base t v := hval0
  have hW' := hW
  obtain ⟨p, q, hA0, hV, rfl, hfz, hnd⟩ := hW
  have hA : DataW.TrodAll enc Try.prog W 0 (fun _ => true) true Try.f3.params.toList args.toList ds p := hA0
  rw [Try.params3] at hA hval
  obtain ⟨v0, vs0, d0, ds0, p0, q0, hargs, rfl, rfl, h0, r0⟩ := trodAll_cons hA
  obtain ⟨v1, vs1, d1, ds1, p1, q1, rfl, rfl, rfl, h1, r1⟩ := trodAll_cons r0
  obtain ⟨rfl, rfl, rfl⟩ := trodAll_nil r1
  obtain rfl : args = #[v0, v1] := by cases args; simp_all
  obtain ⟨rfl, rfl⟩ := trodVars_none hV
  have k0 := h0
  have lt0 : ∀ x ∈ p0, x.block < W.heap.size := by obtain ⟨m, hm⟩ := k0; exact DataW.trod_lt m _ _ _ hm
  have k1 := h1
  have lt1 : ∀ x ∈ p1, x.block < W.heap.size := by obtain ⟨m, hm⟩ := k1; exact DataW.trod_lt m _ _ _ hm
  obtain ⟨a0, rfl, rfl, rfl, w0⟩ := open_int Try.underlying3 (hval 0 3 v0 rfl rfl) h0
  obtain ⟨a1, len1, cap1, rfl⟩ := okWide_slice Try.underlying22 (hval 1 22 v1 rfl rfl)
  obtain ⟨z1, l1, x1, w1, m1, n1, g1⟩ : ∃ zs : List (Int × Int), zs.length = len1 ∧ Go.Mine.PairsAt W a1 zs ∧ (∀ e ∈ zs, (Lit.int .i64 e.1).wf = true ∧ (Lit.int .i64 e.2).wf = true) ∧ len1 ≤ maxLen ∧ (a1 = none → len1 = 0) ∧ (a1 ≠ none → len1 ≤ cap1) := by
    obtain ⟨fuel, hf⟩ := h1
    have gg := Go.Mine.pairs_cap Try.underlying22 Try.underlying32 (by kernel_rfl) rfl rfl (by kernel_rfl) (by kernel_rfl) hf
    obtain ⟨zs, e1, e2, e3, e4, e5, e6⟩ := Go.Mine.pairs_open Try.underlying22 Try.underlying32 (by kernel_rfl) rfl rfl (by kernel_rfl) (by kernel_rfl) Try.underlying3 Try.underlying3 hf
    exact ⟨zs, e1, e2, e3, e4, e5, gg⟩
  clear hA0 hval0
  refine (walk W a0 w0 a1 len1 cap1 z1 l1 x1 w1 m1 n1 g1).mono fun e W' ⟨he, bel⟩ => ?_
  subst he
  exact ⟨_, rfl, _, _, _, [], _, [], hW', trodAll_mk1 (shut_bool Try.underlying4 _), (trodAll_cons_mk (Below.trod laidOut (by kernel_rfl) (of_decide_eq_true (by kernel_rfl)) k0 bel lt0) (trodAll_cons_mk (Below.trod laidOut (by kernel_rfl) (of_decide_eq_true (by kernel_rfl)) k1 bel lt1) trodAll_mk0)), rfl, bel.frame _, fun h => by cases h⟩

theorem proved : Rows.TopPathsSaid :=
  OpenClaim.holds_of_wide 3 Try.f3 rfl rfl rfl rfl rfl rfl rfl ⟨rfl, rfl, rfl, rfl, rfl⟩ rfl rfl rfl rfl rfl (by kernel_rfl) Try.func3 (by kernel_rfl)
    (of_decide_eq_true (by kernel_rfl)) (by unfold Func.isWrapper; first | (rw [if_pos (by decide +kernel)]; kernel_rfl) | (rw [if_neg (by decide +kernel)]; exact ⟨rfl, rfl⟩))
    (fun os started H enc _ => lifted os started H enc)
#print axioms proved
end topPaths
