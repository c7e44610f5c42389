/- TourRound: a way that is told goes from 0 back to 0, each edge just as often as it stands there. No conditions. -/
import Derived.Test.YtnbnfgljbhidbaaG
import Derived.OpenShut
import Derived.ProofKit
import Derived.SizedLaws
namespace Go.Proofs.Ytnbnfgljbhidbaa
open Go.RowKit Go.Mine
namespace tourRound
theorem walk (W : World) (n : Int) (_w0 : (Lit.int .i64 n).wf = true) (a : Option Addr) (len cap : Nat) (es : List (Int × Int)) (hl : es.length = len) (hx : PairsAt W a es) (_hw : ∀ e ∈ es, (Lit.int .i64 e.1).wf = true ∧ (Lit.int .i64 e.2).wf = true) (hm : len ≤ maxLen) (_hn : a = none → len = 0) (_hb : len * 16 ≤ 140737488351232) :
    Calls Try.prog 3 #[.int .i64 n, .slice a len cap] W fun e w' => e = .returned (.bool true) ∧ Below W.heap.size W w' := by
  subst hl
  exact tourRound_walk n es a cap W hx hm
end tourRound
namespace tourRound
open Go.ChangeShapes Go.WideShapes Go.ChangeAt
theorem own : ownKnob Try.prog.godebug = none := by kernel_rfl
theorem laidOut : laidOutB Try.prog = true := by kernel_rfl
set_option maxRecDepth 100000 in
theorem lifted (os : Os) (started : os.Started) (H : Type) (enc : TypeId × Value → H) :
    ReturnsInHanded {} Try.checked os 3 .any (Rows.tourRoundSpec.pre6 enc Try.prog Try.f3 Rows.tourRoundRow.domain false) (Rows.tourRoundSpec.post enc Try.prog Try.f3 false true false false) := by
  refine returnsInHanded_of_change_sized (C := Try.checked) own started (by kernel_rfl) Try.func3
    (ChangeSpec.witness6 (enc := enc) (C := Try.checked) false ⟨#[], #[.int .i64 0, .slice none 0 0], []⟩ 8 (by kernel_rfl) (by kernel_rfl) (by kernel_rfl) (by kernel_rfl)) ?_
  intro W base args ds gs before hval0 hW hcnd hsz0 _
  have hsz : (DataW.weightsEach Try.prog (Try.f3.params.toList ++ Rows.tourRoundSpec.plain.varTypes Try.prog) (ds ++ gs)).all (· ≤ reachBytes) = true := hsz0
  clear hsz0
  have hval : ∀ (j : Nat) t v, Try.f3.params[j]? = some t → args[j]? = some v → Value.okWide Try.prog W .any base t v := hval0
  have hW' := hW
  obtain ⟨p, q, hA0, hV, rfl, hfz, hnd⟩ := hW
  have hA : DataW.TrodAll enc Try.prog W 0 (fun _ => true) true Try.f3.params.toList args.toList ds p := hA0
  rw [Try.params3] at hA hval hsz
  obtain ⟨v0, vs0, d0, ds0, p0, q0, hargs, rfl, rfl, h0, r0⟩ := trodAll_cons hA
  obtain ⟨v1, vs1, d1, ds1, p1, q1, rfl, rfl, rfl, h1, r1⟩ := trodAll_cons r0
  obtain ⟨rfl, rfl, rfl⟩ := trodAll_nil r1
  obtain rfl : args = #[v0, v1] := by cases args; simp_all
  obtain ⟨rfl, rfl⟩ := trodVars_none hV
  have k0 := h0
  have lt0 : ∀ x ∈ p0, x.block < W.heap.size := by obtain ⟨m, hm⟩ := k0; exact DataW.trod_lt m _ _ _ hm
  have k1 := h1
  have lt1 : ∀ x ∈ p1, x.block < W.heap.size := by obtain ⟨m, hm⟩ := k1; exact DataW.trod_lt m _ _ _ hm
  obtain ⟨a0, rfl, rfl, rfl, w0⟩ := open_int Try.underlying3 (hval 0 3 v0 rfl rfl) h0
  obtain ⟨a1, len1, cap1, rfl⟩ := okWide_slice Try.underlying22 (hval 1 22 v1 rfl rfl)
  obtain ⟨z1, l1, x1, w1, m1, n1, b1⟩ : ∃ zs : List (Int × Int), zs.length = len1 ∧ Go.Mine.PairsAt W a1 zs ∧ (∀ e ∈ zs, (Lit.int .i64 e.1).wf = true ∧ (Lit.int .i64 e.2).wf = true) ∧ len1 ≤ maxLen ∧ (a1 = none → len1 = 0) ∧ len1 * 16 ≤ 140737488351232 := by
    obtain ⟨fuel, hf⟩ := h1
    obtain ⟨zs, e1, e2, e3, e4, e5, e6⟩ := Go.Mine.pairs_open Try.underlying22 Try.underlying30 (by kernel_rfl) rfl rfl (by kernel_rfl) (by kernel_rfl) Try.underlying3 Try.underlying3 hf
    refine ⟨zs, e1, e2, e3, e4, e5, ?_⟩
    rcases e6 with e6 | ⟨el, sp, ed, e6⟩
    · rw [e6]; omega
    · have hr := sized_slice hsz (j := 1) (t := 22) (e := 30) rfl (congrArg some ed) Try.underlying22
      rw [show Try.prog.bytesOf 30 = 16 by kernel_rfl] at hr
      simp only [reachBytes] at hr
      have := Nat.mul_le_mul_right 16 (Nat.le_add_right el.length sp.length)
      omega
  clear hA0 hval0 hsz
  refine (walk W a0 w0 a1 len1 cap1 z1 l1 x1 w1 m1 n1 b1).mono fun e W' ⟨he, bel⟩ => ?_
  subst he
  exact ⟨_, rfl, _, _, _, [], _, [], hW', trodAll_mk1 (shut_bool Try.underlying4 _), (trodAll_cons_mk (Below.trod laidOut (by kernel_rfl) (of_decide_eq_true (by kernel_rfl)) k0 bel lt0) (trodAll_cons_mk (Below.trod laidOut (by kernel_rfl) (of_decide_eq_true (by kernel_rfl)) k1 bel lt1) trodAll_mk0)), rfl, bel.frame _, fun h => by cases h⟩

theorem proved : Rows.TourRoundSaid :=
  OpenClaim.holds_of_wide 3 Try.f3 rfl rfl rfl rfl rfl rfl rfl ⟨rfl, rfl, rfl, rfl, rfl⟩ rfl rfl rfl rfl rfl (by kernel_rfl) Try.func3 (by kernel_rfl)
    (of_decide_eq_true (by kernel_rfl)) (by unfold Func.isWrapper; first | (rw [if_pos (by decide +kernel)]; kernel_rfl) | (rw [if_neg (by decide +kernel)]; exact ⟨rfl, rfl⟩))
    (fun os started H enc _ => lifted os started H enc)
#print axioms proved
end tourRound
end Go.Proofs.Ytnbnfgljbhidbaa
