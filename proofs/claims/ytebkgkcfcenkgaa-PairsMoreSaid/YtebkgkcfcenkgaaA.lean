/- PairsMore: a row more has no more missing; as many fewer as the pairs that it has and none had. No condition. -/
import Derived.Test.YtebkgkcfcenkgaaPwMore
import Derived.Test.YtebkgkcfcenkgaaRows5
import Derived.OpenShut
import Derived.ProofKit
import Derived.SizedLaws
namespace Go.Proofs.Ytebkgkcfcenkgaa
open Go.RowKit Go.Mine Go.Mine.Pw
namespace pairsMore
theorem walk (W : World) (a : Option Addr) (len cap : Nat) (L : List Int) (hl : L.length = len) (hx : IntsAt .i64 W a L) (_hw : ∀ z ∈ L, (Lit.int .i64 z).wf = true) (hm : len ≤ maxLen)
    (a1 : Option Addr) (len1 cap1 : Nat) (rows : List (List Int)) (hl1 : rows.length = len1) (hx1 : RowsAt W a1 rows) (_hw1 : ∀ r ∈ rows, ∀ z ∈ r, (Lit.int .i64 z).wf = true) (hm1 : len1 ≤ maxLen) (hn1 : a1 = none → len1 = 0) (_hc1 : len1 ≤ cap1) (hb1 : len1 * 24 ≤ 140737488351232)
    (a2 : Option Addr) (len2 cap2 : Nat) (row : List Int) (hl2 : row.length = len2) (hx2 : IntsAt .i64 W a2 row) (_hw2 : ∀ z ∈ row, (Lit.int .i64 z).wf = true) (hm2 : len2 ≤ maxLen) (hn2 : a2 = none → len2 = 0) (hc2 : len2 ≤ cap2) :
    Calls Try.prog 4 #[.slice a len cap, .slice a1 len1 cap1, .slice a2 len2 cap2] W fun e w' => e = .returned (.bool true) ∧ Below W.heap.size W w' := by
  subst hl hl1 hl2
  exact pairsMore_walk W L a cap hx hm rows a1 cap1 hx1 hm1 hn1 hb1 row a2 cap2 hx2 hm2 hn2 hc2
end pairsMore
namespace pairsMore
open Go.ChangeShapes Go.WideShapes Go.ChangeAt
theorem own : ownKnob Try.prog.godebug = none := by kernel_rfl
theorem laidOut : laidOutB Try.prog = true := by kernel_rfl
set_option maxRecDepth 100000 in
theorem lifted (os : Os) (started : os.Started) (H : Type) (enc : TypeId × Value → H) :
    ReturnsInHanded {} Try.checked os 4 .any (Rows.pairsMoreSpec.pre6 enc Try.prog Try.f4 Rows.pairsMoreRow.domain false) (Rows.pairsMoreSpec.post enc Try.prog Try.f4 false true false false) := by
  refine returnsInHanded_of_change_sized (C := Try.checked) own started (by kernel_rfl) Try.func4
    (ChangeSpec.witness6 (enc := enc) (C := Try.checked) false ⟨#[], #[.slice none 0 0, .slice none 0 0, .slice none 0 0], []⟩ 8 (by kernel_rfl) (by kernel_rfl) (by kernel_rfl) (by kernel_rfl)) ?_
  intro W base args ds gs before hval0 hW hcnd hsz0 _
  have hsz : (DataW.weightsEach Try.prog (Try.f4.params.toList ++ Rows.pairsMoreSpec.plain.varTypes Try.prog) (ds ++ gs)).all (· ≤ reachBytes) = true := hsz0
  clear hsz0
  have hval : ∀ (j : Nat) t v, Try.f4.params[j]? = some t → args[j]? = some v → Value.okWide Try.prog W .any base t v := hval0
  have hW' := hW
  obtain ⟨p, q, hA0, hV, rfl, hfz, hnd⟩ := hW
  have hA : DataW.TrodAll enc Try.prog W 0 (fun _ => true) true Try.f4.params.toList args.toList ds p := hA0
  rw [Try.params4] at hA hval hsz
  obtain ⟨v0, vs0, d0, ds0, p0, q0, hargs, rfl, rfl, h0, r0⟩ := trodAll_cons hA
  obtain ⟨v1, vs1, d1, ds1, p1, q1, rfl, rfl, rfl, h1, r1⟩ := trodAll_cons r0
  obtain ⟨v2, vs2, d2, ds2, p2, q2, rfl, rfl, rfl, h2, r2⟩ := trodAll_cons r1
  obtain ⟨rfl, rfl, rfl⟩ := trodAll_nil r2
  obtain rfl : args = #[v0, v1, v2] := by cases args; simp_all
  obtain ⟨rfl, rfl⟩ := trodVars_none hV
  have k0 := h0
  have lt0 : ∀ x ∈ p0, x.block < W.heap.size := by obtain ⟨m, hm⟩ := k0; exact DataW.trod_lt m _ _ _ hm
  have k1 := h1
  have lt1 : ∀ x ∈ p1, x.block < W.heap.size := by obtain ⟨m, hm⟩ := k1; exact DataW.trod_lt m _ _ _ hm
  have k2 := h2
  have lt2 : ∀ x ∈ p2, x.block < W.heap.size := by obtain ⟨m, hm⟩ := k2; exact DataW.trod_lt m _ _ _ hm
  obtain ⟨a0, len0, cap0, rfl⟩ := okWide_slice Try.underlying22 (hval 0 22 v0 rfl rfl)
  obtain ⟨z0, l0, x0, w0, m0⟩ : ∃ zs : List Int, zs.length = len0 ∧ Go.Mine.IntsAt .i64 W a0 zs ∧ (∀ n ∈ zs, (Lit.int .i64 n).wf = true) ∧ len0 ≤ maxLen := by
    obtain ⟨fuel, hf⟩ := h0
    exact Go.Mine.ints_open Try.underlying22 Try.underlying3 (by kernel_rfl) hf
  obtain ⟨a1, len1, cap1, rfl⟩ := okWide_slice Try.underlying23 (hval 1 23 v1 rfl rfl)
  obtain ⟨z1, l1, x1, w1, m1, n1, c1, b1⟩ : ∃ zs : List (List Int), zs.length = len1 ∧ Go.Mine.RowsAt W a1 zs ∧ (∀ r ∈ zs, ∀ z ∈ r, (Lit.int .i64 z).wf = true) ∧ len1 ≤ maxLen ∧ (a1 = none → len1 = 0) ∧ len1 ≤ cap1 ∧ len1 * 24 ≤ 140737488351232 := by
    obtain ⟨fuel, hf⟩ := h1
    obtain ⟨zs, e1, e2, e3, e4, e5, e6, e7⟩ := Go.Mine.rows_open5 Try.underlying23 Try.underlying22 Try.underlying3 (by kernel_rfl) (by kernel_rfl) hf
    refine ⟨zs, e1, e2, e3, e4, e5, e6, ?_⟩
    rcases e7 with e7 | ⟨el, sp, ed, e7⟩
    · rw [e7]; omega
    · have hr := sized_slice hsz (j := 1) (t := 23) (e := 22) rfl (congrArg some ed) Try.underlying23
      rw [show Try.prog.bytesOf 22 = 24 by kernel_rfl] at hr
      simp only [reachBytes] at hr
      have := Nat.mul_le_mul_right 24 (Nat.le_add_right el.length sp.length)
      omega
  obtain ⟨a2, len2, cap2, rfl⟩ := okWide_slice Try.underlying22 (hval 2 22 v2 rfl rfl)
  obtain ⟨z2, l2, x2, w2, m2, n2, c2⟩ : ∃ zs : List Int, zs.length = len2 ∧ Go.Mine.IntsAt .i64 W a2 zs ∧ (∀ n ∈ zs, (Lit.int .i64 n).wf = true) ∧ len2 ≤ maxLen ∧ (a2 = none → len2 = 0) ∧ len2 ≤ cap2 := by
    obtain ⟨fuel, hf⟩ := h2
    exact Go.Mine.ints_open2 Try.underlying22 Try.underlying3 (by kernel_rfl) hf
  clear hA0 hval0 hsz
  refine (walk W a0 len0 cap0 z0 l0 x0 w0 m0 a1 len1 cap1 z1 l1 x1 w1 m1 n1 c1 b1 a2 len2 cap2 z2 l2 x2 w2 m2 n2 c2).mono fun e W' ⟨he, bel⟩ => ?_
  subst he
  exact ⟨_, rfl, _, _, _, [], _, [], hW', trodAll_mk1 (shut_bool Try.underlying4 _), (trodAll_cons_mk (Below.trod laidOut (by kernel_rfl) (of_decide_eq_true (by kernel_rfl)) k0 bel lt0) (trodAll_cons_mk (Below.trod laidOut (by kernel_rfl) (of_decide_eq_true (by kernel_rfl)) k1 bel lt1) (trodAll_cons_mk (Below.trod laidOut (by kernel_rfl) (of_decide_eq_true (by kernel_rfl)) k2 bel lt2) trodAll_mk0))), rfl, bel.frame _, fun h => by cases h⟩

theorem proved : Rows.PairsMoreSaid :=
  OpenClaim.holds_of_wide 4 Try.f4 rfl rfl rfl rfl rfl rfl rfl ⟨rfl, rfl, rfl, rfl, rfl⟩ rfl rfl rfl rfl rfl (by kernel_rfl) Try.func4 (by kernel_rfl)
    (of_decide_eq_true (by kernel_rfl)) (by unfold Func.isWrapper; first | (rw [if_pos (by decide +kernel)]; kernel_rfl) | (rw [if_neg (by decide +kernel)]; exact ⟨rfl, rfl⟩))
    (fun os started H enc _ => lifted os started H enc)
#print axioms proved
end pairsMore
