/- CondMore, its second form: more tests cover no less; and all tests cover. CONDITION: the form's own bound on what is handed in (1048576 values and letters). -/
import Derived.Test.YtpchdclgkdoajaaA
import Derived.Test.YtpchdclgkdoajaaBulk
import Derived.OpenShut
import Derived.ProofKit
import Derived.JoinedCond
namespace Go.Proofs.Ytpchdclgkdoajaa
open Go.RowKit Go.Mine
namespace condMore
theorem walk (W : World) (n : Int) (_w0 : (Lit.int .i64 n).wf = true) (a : Option Addr) (len cap : Nat) (fs : List Bool) (hl : fs.length = len) (hf : BoolsAt W a fs) (hm : len ≤ maxLen) (_hn : a = none → len = 0) (_hc : len ≤ cap)
    (a1 : Option Addr) (len1 cap1 : Nat) (xs : List Int) (hl1 : xs.length = len1) (hx : IntsAt .i64 W a1 xs) (_hw : ∀ n ∈ xs, (Lit.int .i64 n).wf = true) (_hm1 : len1 ≤ maxLen) (hn1 : a1 = none → len1 = 0) (_hc1 : len1 ≤ cap1) (hu1 : len1 ≤ 1048576)
    (a2 : Option Addr) (len2 cap2 : Nat) (ys : List Int) (hl2 : ys.length = len2) (hy : IntsAt .i64 W a2 ys) (_hw2 : ∀ n ∈ ys, (Lit.int .i64 n).wf = true) (_hm2 : len2 ≤ maxLen) (hn2 : a2 = none → len2 = 0) (_hc2 : len2 ≤ cap2) (hu2 : len2 ≤ 1048576) :
    Calls Try.prog 3 #[.int .i64 n, .slice a len cap, .slice a1 len1 cap1, .slice a2 len2 cap2] W fun e w' => e = .returned (.bool true) ∧ Below W.heap.size W w' := by
  subst hl
  subst hl1
  subst hl2
  exact condMore_walk n fs xs ys a a1 a2 cap cap1 cap2 W hf hx hy hn1 hn2 hm hu1 hu2
end condMore
namespace condMore
open Go.ChangeShapes Go.WideShapes Go.ChangeAt
theorem own : ownKnob Try.prog.godebug = none := by kernel_rfl
theorem laidOut : laidOutB Try.prog = true := by kernel_rfl
set_option maxRecDepth 100000 in
theorem lifted (os : Os) (started : os.Started) (H : Type) (enc : TypeId × Value → H) (F : Stop.Interp) :
    ReturnsInHanded {} Try.checked os 3 .any ((Rows.OpenSpec.upto Rows.condMoreSpec).pre6 enc Try.prog Try.f3 Rows.condMoreUptoRow.domain false) (((Rows.OpenSpec.upto Rows.condMoreSpec).at F).post enc Try.prog Try.f3 false true false false) := by
  refine returnsInHanded_of_cond (C := Try.checked) (s := (Rows.OpenSpec.upto Rows.condMoreSpec)) (k := Rows.uptoSmall) rfl own started (by kernel_rfl) Try.func3
    (OpenSpec.witness (enc := enc) (C := Try.checked) (s := (Rows.OpenSpec.upto Rows.condMoreSpec)) (k := Rows.uptoSmall) rfl false ⟨#[], #[.int .i64 0, .slice none 0 0, .slice none 0 0, .slice none 0 0], []⟩ 8 (by kernel_rfl) (by kernel_rfl) (by kernel_rfl)
      (x := ([.lit (.int .i64 0), .nil, .nil, .nil], [], [])) (by kernel_rfl) rfl (by kernel_rfl)) ?_
  intro W base args ds gs before hval0 hW hcnd hk _
  have hval : ∀ (j : Nat) t v, Try.f3.params[j]? = some t → args[j]? = some v → Value.okWide Try.prog W .any base t v := hval0
  have hW' := hW
  obtain ⟨p, q, hA0, hV, rfl, hfz, hnd⟩ := hW
  have hA : DataW.TrodAll enc Try.prog W 0 (fun _ => true) true Try.f3.params.toList args.toList ds p := hA0
  rw [Try.params3] at hA hval
  obtain ⟨v0, vs0, d0, ds0, p0, q0, hargs, rfl, rfl, h0, r0⟩ := trodAll_cons hA
  obtain ⟨v1, vs1, d1, ds1, p1, q1, rfl, rfl, rfl, h1, r1⟩ := trodAll_cons r0
  obtain ⟨v2, vs2, d2, ds2, p2, q2, rfl, rfl, rfl, h2, r2⟩ := trodAll_cons r1
  obtain ⟨v3, vs3, d3, ds3, p3, q3, rfl, rfl, rfl, h3, r3⟩ := trodAll_cons r2
  obtain ⟨rfl, rfl, rfl⟩ := trodAll_nil r3
  obtain rfl : args = #[v0, v1, v2, v3] := by cases args; simp_all
  obtain ⟨rfl, rfl⟩ := trodVars_none hV
  have k0 := h0
  have lt0 : ∀ x ∈ p0, x.block < W.heap.size := by obtain ⟨m, hm⟩ := k0; exact DataW.trod_lt m _ _ _ hm
  have k1 := h1
  have lt1 : ∀ x ∈ p1, x.block < W.heap.size := by obtain ⟨m, hm⟩ := k1; exact DataW.trod_lt m _ _ _ hm
  have k2 := h2
  have lt2 : ∀ x ∈ p2, x.block < W.heap.size := by obtain ⟨m, hm⟩ := k2; exact DataW.trod_lt m _ _ _ hm
  have k3 := h3
  have lt3 : ∀ x ∈ p3, x.block < W.heap.size := by obtain ⟨m, hm⟩ := k3; exact DataW.trod_lt m _ _ _ hm
  have hbAll : Rows.uptoBulkAll [d0, d1, d2, d3] ≤ 1048576 := of_decide_eq_true hk
  have hbm0 := Nat.le_trans (bulk_mem (d := d0) (l := [d0, d1, d2, d3]) (by simp)) hbAll
  have hbm1 := Nat.le_trans (bulk_mem (d := d1) (l := [d0, d1, d2, d3]) (by simp)) hbAll
  have hbm2 := Nat.le_trans (bulk_mem (d := d2) (l := [d0, d1, d2, d3]) (by simp)) hbAll
  have hbm3 := Nat.le_trans (bulk_mem (d := d3) (l := [d0, d1, d2, d3]) (by simp)) hbAll
  clear hbAll hk
  obtain ⟨a0, rfl, rfl, rfl, w0⟩ := open_int Try.underlying3 (hval 0 3 v0 rfl rfl) h0
  obtain ⟨a1, len1, cap1, rfl⟩ := okWide_slice Try.underlying22 (hval 1 22 v1 rfl rfl)
  obtain ⟨z1, l1, x1, m1, n1, c1⟩ : ∃ zs : List Bool, zs.length = len1 ∧ Go.Mine.BoolsAt W a1 zs ∧ len1 ≤ maxLen ∧ (a1 = none → len1 = 0) ∧ len1 ≤ cap1 := by
    obtain ⟨fuel, hf⟩ := h1
    obtain ⟨zs, e1, e2, e3, e4, e5, e6⟩ := Go.Mine.bools_open Try.underlying22 Try.underlying4 (by kernel_rfl) hf
    exact ⟨zs, e1, e2, e3, e4, e5⟩
  obtain ⟨a2, len2, cap2, rfl⟩ := okWide_slice Try.underlying23 (hval 2 23 v2 rfl rfl)
  obtain ⟨z2, l2, x2, w2, m2, n2, c2, u2⟩ : ∃ zs : List Int, zs.length = len2 ∧ Go.Mine.IntsAt .i64 W a2 zs ∧ (∀ n ∈ zs, (Lit.int .i64 n).wf = true) ∧ len2 ≤ maxLen ∧ (a2 = none → len2 = 0) ∧ len2 ≤ cap2 ∧ len2 ≤ 1048576 := by
    obtain ⟨fuel, hf⟩ := h2
    obtain ⟨zs, e1, e2, e3, e4, e5, e6, e7⟩ := Go.Mine.ints_open3 Try.underlying23 Try.underlying3 (by kernel_rfl) hf
    refine ⟨zs, e1, e2, e3, e4, e5, e6, ?_⟩
    rcases e7 with e7 | ⟨el, sp, ed, e7⟩
    · omega
    · have h1 := hbm2
      have h2 := bulk_slice el sp
      rw [show d2 = .slice el sp from ed] at h1
      omega
  obtain ⟨a3, len3, cap3, rfl⟩ := okWide_slice Try.underlying23 (hval 3 23 v3 rfl rfl)
  obtain ⟨z3, l3, x3, w3, m3, n3, c3, u3⟩ : ∃ zs : List Int, zs.length = len3 ∧ Go.Mine.IntsAt .i64 W a3 zs ∧ (∀ n ∈ zs, (Lit.int .i64 n).wf = true) ∧ len3 ≤ maxLen ∧ (a3 = none → len3 = 0) ∧ len3 ≤ cap3 ∧ len3 ≤ 1048576 := by
    obtain ⟨fuel, hf⟩ := h3
    obtain ⟨zs, e1, e2, e3, e4, e5, e6, e7⟩ := Go.Mine.ints_open3 Try.underlying23 Try.underlying3 (by kernel_rfl) hf
    refine ⟨zs, e1, e2, e3, e4, e5, e6, ?_⟩
    rcases e7 with e7 | ⟨el, sp, ed, e7⟩
    · omega
    · have h1 := hbm3
      have h2 := bulk_slice el sp
      rw [show d3 = .slice el sp from ed] at h1
      omega
  clear hA0 hval0
  refine (walk W a0 w0 a1 len1 cap1 z1 l1 x1 m1 n1 c1 a2 len2 cap2 z2 l2 x2 w2 m2 n2 c2 u2 a3 len3 cap3 z3 l3 x3 w3 m3 n3 c3 u3).mono fun e W' ⟨he, bel⟩ => ?_
  subst he
  exact ⟨_, rfl, _, _, _, [], _, [], hW', trodAll_mk1 (shut_bool Try.underlying4 _), (trodAll_cons_mk (Below.trod laidOut (by kernel_rfl) (of_decide_eq_true (by kernel_rfl)) k0 bel lt0) (trodAll_cons_mk (Below.trod laidOut (by kernel_rfl) (of_decide_eq_true (by kernel_rfl)) k1 bel lt1) (trodAll_cons_mk (Below.trod laidOut (by kernel_rfl) (of_decide_eq_true (by kernel_rfl)) k2 bel lt2) (trodAll_cons_mk (Below.trod laidOut (by kernel_rfl) (of_decide_eq_true (by kernel_rfl)) k3 bel lt3) trodAll_mk0)))), rfl, bel.frame _, fun h => by cases h⟩

theorem proved : Rows.CondMoreUptoSaid :=
  OpenClaim.holds_of_cond 3 Try.f3 rfl rfl rfl rfl rfl rfl rfl ⟨rfl, rfl, rfl, rfl, rfl⟩ rfl rfl rfl rfl rfl (by kernel_rfl) Try.func3 (by kernel_rfl)
    (of_decide_eq_true (by kernel_rfl)) (by unfold Func.isWrapper; first | (rw [if_pos (by decide +kernel)]; kernel_rfl) | (rw [if_neg (by decide +kernel)]; exact ⟨rfl, rfl⟩))
    (fun os started H enc _ F => lifted os started H enc F)
#print axioms proved
end condMore
