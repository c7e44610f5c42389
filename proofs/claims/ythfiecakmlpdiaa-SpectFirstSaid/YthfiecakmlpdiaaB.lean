/- SpectFirst: who is in all that fail, and in no other. No condition. -/
import Derived.Test.YthfiecakmlpdiaaSpect6
import Derived.OpenShut
import Derived.ProofKit
namespace Go.Proofs.Ythfiecakmlpdiaa
open Go.RowKit Go.Mine Go.Mine.Suite Go.Mine.Spec
theorem nat_list (zs : List Int) (h : ∀ n ∈ zs, (Lit.int .u32 n).wf = true) : cast (zs.map Int.toNat) = zs ∧ ∀ t ∈ zs.map Int.toNat, t < 4294967296 := by
  have hb : ∀ n ∈ zs, 0 ≤ n ∧ n < 4294967296 := fun n hn => by
    have := h n hn
    simp only [Lit.wf, Bool.and_eq_true, decide_eq_true_eq] at this
    have h1 : IntKind.u32.min = 0 := by decide
    have h2 : IntKind.u32.max = 4294967295 := by decide
    rw [h1, h2] at this
    omega
  refine ⟨?_, ?_⟩
  · rw [cast, List.map_map]
    refine (List.map_congr_left (g := id) fun n hn => ?_).trans (List.map_id _)
    have := hb n hn
    simp only [Function.comp, id]
    omega
  · intro t ht
    obtain ⟨n, hn, rfl⟩ := List.mem_map.1 ht
    have := hb n hn
    omega
namespace spectFirst
theorem walk (W : World) (n : Int) (_w0 : (Lit.int .i64 n).wf = true) (a : Option Addr) (len cap : Nat) (zs : List Int) (hl : zs.length = len) (hx : IntsAt .u32 W a zs) (wf : ∀ n ∈ zs, (Lit.int .u32 n).wf = true) (hm : len ≤ maxLen)
    (a1 : Option Addr) (len1 cap1 : Nat) (fs : List Bool) (hl1 : fs.length = len1) (hf : BoolsAt W a1 fs) (hm1 : len1 ≤ maxLen) (_hn1 : a1 = none → len1 = 0) (_hc1 : len1 ≤ cap1)
    (x : Int) (_w1 : (Lit.int .i64 x).wf = true) (y : Int) (_w2 : (Lit.int .i64 y).wf = true) :
    Calls Try.prog 3 #[.int .i64 n, .slice a len cap, .slice a1 len1 cap1, .int .i64 x, .int .i64 y] W fun e w' => e = .returned (.bool true) ∧ Below W.heap.size W w' := by
  subst hl hl1
  obtain ⟨e, h32⟩ := nat_list zs wf
  have hl : (zs.map Int.toNat).length = zs.length := List.length_map _
  have := spectFirst_walk W n (zs.map Int.toNat) fs a a1 cap cap1 x y (by rw [e]; exact hx) h32 (by rw [hl]; exact hm) hf hm1
  rw [hl] at this
  exact this
end spectFirst
namespace spectFirst
open Go.ChangeShapes Go.WideShapes Go.ChangeAt
theorem own : ownKnob Try.prog.godebug = none := by kernel_rfl
theorem laidOut : laidOutB Try.prog = true := by kernel_rfl
set_option maxRecDepth 100000 in
theorem lifted (os : Os) (started : os.Started) (H : Type) (enc : TypeId × Value → H) :
    ReturnsInHanded {} Try.checked os 3 .any (Rows.spectFirstSpec.pre6 enc Try.prog Try.f3 Rows.spectFirstRow.domain false) (Rows.spectFirstSpec.post enc Try.prog Try.f3 false true false false) := by
  refine returnsInHanded_of_change (C := Try.checked) own started (by kernel_rfl) Try.func3
    (ChangeSpec.witness6 (enc := enc) (C := Try.checked) false ⟨#[], #[.int .i64 0, .slice none 0 0, .slice none 0 0, .int .i64 0, .int .i64 0], []⟩ 8 (by kernel_rfl) (by kernel_rfl) (by kernel_rfl) (by kernel_rfl)) ?_
  intro W base args ds gs before hval0 hW hcnd _
  have hval : ∀ (j : Nat) t v, Try.f3.params[j]? = some t → args[j]? = some v → Value.okWide Try.prog W .any base t v := hval0
  have hW' := hW
  obtain ⟨p, q, hA0, hV, rfl, hfz, hnd⟩ := hW
  have hA : DataW.TrodAll enc Try.prog W 0 (fun _ => true) true Try.f3.params.toList args.toList ds p := hA0
  rw [Try.params3] at hA hval
  obtain ⟨v0, vs0, d0, ds0, p0, q0, hargs, rfl, rfl, h0, r0⟩ := trodAll_cons hA
  obtain ⟨v1, vs1, d1, ds1, p1, q1, rfl, rfl, rfl, h1, r1⟩ := trodAll_cons r0
  obtain ⟨v2, vs2, d2, ds2, p2, q2, rfl, rfl, rfl, h2, r2⟩ := trodAll_cons r1
  obtain ⟨v3, vs3, d3, ds3, p3, q3, rfl, rfl, rfl, h3, r3⟩ := trodAll_cons r2
  obtain ⟨v4, vs4, d4, ds4, p4, q4, rfl, rfl, rfl, h4, r4⟩ := trodAll_cons r3
  obtain ⟨rfl, rfl, rfl⟩ := trodAll_nil r4
  obtain rfl : args = #[v0, v1, v2, v3, v4] := by cases args; simp_all
  obtain ⟨rfl, rfl⟩ := trodVars_none hV
  have k0 := h0
  have lt0 : ∀ x ∈ p0, x.block < W.heap.size := by obtain ⟨m, hm⟩ := k0; exact DataW.trod_lt m _ _ _ hm
  have k1 := h1
  have lt1 : ∀ x ∈ p1, x.block < W.heap.size := by obtain ⟨m, hm⟩ := k1; exact DataW.trod_lt m _ _ _ hm
  have k2 := h2
  have lt2 : ∀ x ∈ p2, x.block < W.heap.size := by obtain ⟨m, hm⟩ := k2; exact DataW.trod_lt m _ _ _ hm
  have k3 := h3
  have lt3 : ∀ x ∈ p3, x.block < W.heap.size := by obtain ⟨m, hm⟩ := k3; exact DataW.trod_lt m _ _ _ hm
  have k4 := h4
  have lt4 : ∀ x ∈ p4, x.block < W.heap.size := by obtain ⟨m, hm⟩ := k4; exact DataW.trod_lt m _ _ _ hm
  obtain ⟨a0, rfl, rfl, rfl, w0⟩ := open_int Try.underlying3 (hval 0 3 v0 rfl rfl) h0
  obtain ⟨a1, len1, cap1, rfl⟩ := okWide_slice Try.underlying22 (hval 1 22 v1 rfl rfl)
  obtain ⟨z1, l1, x1, w1, m1⟩ : ∃ zs : List Int, zs.length = len1 ∧ Go.Mine.IntsAt .u32 W a1 zs ∧ (∀ n ∈ zs, (Lit.int .u32 n).wf = true) ∧ len1 ≤ maxLen := by
    obtain ⟨fuel, hf⟩ := h1
    exact Go.Mine.ints_open Try.underlying22 Try.underlying36 (by kernel_rfl) hf
  obtain ⟨a2, len2, cap2, rfl⟩ := okWide_slice Try.underlying23 (hval 2 23 v2 rfl rfl)
  obtain ⟨z2, l2, x2, m2, n2, c2⟩ : ∃ zs : List Bool, zs.length = len2 ∧ Go.Mine.BoolsAt W a2 zs ∧ len2 ≤ maxLen ∧ (a2 = none → len2 = 0) ∧ len2 ≤ cap2 := by
    obtain ⟨fuel, hf⟩ := h2
    obtain ⟨zs, e1, e2, e3, e4, e5, e6⟩ := Go.Mine.bools_open Try.underlying23 Try.underlying4 (by kernel_rfl) hf
    exact ⟨zs, e1, e2, e3, e4, e5⟩
  obtain ⟨a3, rfl, rfl, rfl, w3⟩ := open_int Try.underlying3 (hval 3 3 v3 rfl rfl) h3
  obtain ⟨a4, rfl, rfl, rfl, w4⟩ := open_int Try.underlying3 (hval 4 3 v4 rfl rfl) h4
  clear hA0 hval0
  refine (walk W a0 w0 a1 len1 cap1 z1 l1 x1 w1 m1 a2 len2 cap2 z2 l2 x2 m2 n2 c2 a3 w3 a4 w4).mono fun e W' ⟨he, bel⟩ => ?_
  subst he
  exact ⟨_, rfl, _, _, _, [], _, [], hW', trodAll_mk1 (shut_bool Try.underlying4 _), (trodAll_cons_mk (Below.trod laidOut (by kernel_rfl) (of_decide_eq_true (by kernel_rfl)) k0 bel lt0) (trodAll_cons_mk (Below.trod laidOut (by kernel_rfl) (of_decide_eq_true (by kernel_rfl)) k1 bel lt1) (trodAll_cons_mk (Below.trod laidOut (by kernel_rfl) (of_decide_eq_true (by kernel_rfl)) k2 bel lt2) (trodAll_cons_mk (Below.trod laidOut (by kernel_rfl) (of_decide_eq_true (by kernel_rfl)) k3 bel lt3) (trodAll_cons_mk (Below.trod laidOut (by kernel_rfl) (of_decide_eq_true (by kernel_rfl)) k4 bel lt4) trodAll_mk0))))), rfl, bel.frame _, fun h => by cases h⟩

theorem proved : Rows.SpectFirstSaid :=
  OpenClaim.holds_of_wide 3 Try.f3 rfl rfl rfl rfl rfl rfl rfl ⟨rfl, rfl, rfl, rfl, rfl⟩ rfl rfl rfl rfl rfl (by kernel_rfl) Try.func3 (by kernel_rfl)
    (of_decide_eq_true (by kernel_rfl)) (by unfold Func.isWrapper; first | (rw [if_pos (by decide +kernel)]; kernel_rfl) | (rw [if_neg (by decide +kernel)]; exact ⟨rfl, rfl⟩))
    (fun os started H enc _ => lifted os started H enc)
#print axioms proved
end spectFirst
