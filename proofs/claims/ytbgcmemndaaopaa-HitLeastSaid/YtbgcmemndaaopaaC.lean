/- HitLeast: none within another one. No condition. -/
import Derived.Test.YtbgcmemndaaopaaHitLeast
import Derived.OpenShut
import Derived.ProofKit
namespace Go.Proofs.Ytbgcmemndaaopaa
open Go.RowKit Go.Mine Go.Mine.Hit
namespace hitLeast
theorem nat_list (zs : List Int) (h : ∀ n ∈ zs, (Lit.int .u32 n).wf = true) : cast (zs.map Int.toNat) = zs := by
  have hb : ∀ n ∈ zs, 0 ≤ n := fun n hn => by
    have := h n hn
    simp only [Lit.wf, Bool.and_eq_true, decide_eq_true_eq] at this
    have h1 : IntKind.u32.min = 0 := by decide
    rw [h1] at this
    omega
  rw [cast, List.map_map]
  refine (List.map_congr_left (g := id) fun n hn => ?_).trans (List.map_id _)
  have := hb n hn
  simp only [Function.comp, id]
  omega
theorem walk (W : World) (a : Option Addr) (len cap : Nat) (zs : List Int) (hl : zs.length = len) (hx : IntsAt .u32 W a zs) (wf : ∀ n ∈ zs, (Lit.int .u32 n).wf = true) (hm : len ≤ maxLen) (hn : a = none → len = 0) (_hc : len ≤ cap) (i : Int) (_w0 : (Lit.int .i64 i).wf = true) :
    Calls Try.prog 5 #[.slice a len cap, .int .i64 i] W fun e w' => e = .returned (.bool true) ∧ Below W.heap.size W w' := by
  subst hl
  have e := nat_list zs wf
  have hl : (zs.map Int.toNat).length = zs.length := List.length_map _
  have := hitLeast_any (zs.map Int.toNat) i a cap W (by rw [e]; exact hx) (by rw [hl]; exact hn) (by rw [hl]; exact hm)
  rw [hl] at this
  exact this
end hitLeast
namespace hitLeast
open Go.ChangeShapes Go.WideShapes Go.ChangeAt
theorem own : ownKnob Try.prog.godebug = none := by kernel_rfl
theorem laidOut : laidOutB Try.prog = true := by kernel_rfl
set_option maxRecDepth 100000 in
theorem lifted (os : Os) (started : os.Started) (H : Type) (enc : TypeId × Value → H) :
    ReturnsInHanded {} Try.checked os 5 .any (Rows.hitLeastSpec.pre6 enc Try.prog Try.f5 Rows.hitLeastRow.domain false) (Rows.hitLeastSpec.post enc Try.prog Try.f5 false true false false) := by
  refine returnsInHanded_of_change (C := Try.checked) own started (by kernel_rfl) Try.func5
    (ChangeSpec.witness6 (enc := enc) (C := Try.checked) false ⟨#[], #[.slice none 0 0, .int .i64 0], []⟩ 8 (by kernel_rfl) (by kernel_rfl) (by kernel_rfl) (by kernel_rfl)) ?_
  intro W base args ds gs before hval0 hW hcnd _
  have hval : ∀ (j : Nat) t v, Try.f5.params[j]? = some t → args[j]? = some v → Value.okWide Try.prog W .any base t v := hval0
  have hW' := hW
  obtain ⟨p, q, hA0, hV, rfl, hfz, hnd⟩ := hW
  have hA : DataW.TrodAll enc Try.prog W 0 (fun _ => true) true Try.f5.params.toList args.toList ds p := hA0
  rw [Try.params5] at hA hval
  obtain ⟨v0, vs0, d0, ds0, p0, q0, hargs, rfl, rfl, h0, r0⟩ := trodAll_cons hA
  obtain ⟨v1, vs1, d1, ds1, p1, q1, rfl, rfl, rfl, h1, r1⟩ := trodAll_cons r0
  obtain ⟨rfl, rfl, rfl⟩ := trodAll_nil r1
  obtain rfl : args = #[v0, v1] := by cases args; simp_all
  obtain ⟨rfl, rfl⟩ := trodVars_none hV
  have k0 := h0
  have lt0 : ∀ x ∈ p0, x.block < W.heap.size := by obtain ⟨m, hm⟩ := k0; exact DataW.trod_lt m _ _ _ hm
  have k1 := h1
  have lt1 : ∀ x ∈ p1, x.block < W.heap.size := by obtain ⟨m, hm⟩ := k1; exact DataW.trod_lt m _ _ _ hm
  obtain ⟨a0, len0, cap0, rfl⟩ := okWide_slice Try.underlying22 (hval 0 22 v0 rfl rfl)
  obtain ⟨z0, l0, x0, w0, m0, n0, c0⟩ : ∃ zs : List Int, zs.length = len0 ∧ Go.Mine.IntsAt .u32 W a0 zs ∧ (∀ n ∈ zs, (Lit.int .u32 n).wf = true) ∧ len0 ≤ maxLen ∧ (a0 = none → len0 = 0) ∧ len0 ≤ cap0 := by
    obtain ⟨fuel, hf⟩ := h0
    exact Go.Mine.ints_open2 Try.underlying22 Try.underlying23 (by kernel_rfl) hf
  obtain ⟨a1, rfl, rfl, rfl, w1⟩ := open_int Try.underlying3 (hval 1 3 v1 rfl rfl) h1
  clear hA0 hval0
  refine (walk W a0 len0 cap0 z0 l0 x0 w0 m0 n0 c0 a1 w1).mono fun e W' ⟨he, bel⟩ => ?_
  subst he
  exact ⟨_, rfl, _, _, _, [], _, [], hW', trodAll_mk1 (shut_bool Try.underlying4 _), (trodAll_cons_mk (Below.trod laidOut (by kernel_rfl) (of_decide_eq_true (by kernel_rfl)) k0 bel lt0) (trodAll_cons_mk (Below.trod laidOut (by kernel_rfl) (of_decide_eq_true (by kernel_rfl)) k1 bel lt1) trodAll_mk0)), rfl, bel.frame _, fun h => by cases h⟩

theorem proved : Rows.HitLeastSaid :=
  OpenClaim.holds_of_wide 5 Try.f5 rfl rfl rfl rfl rfl rfl rfl ⟨rfl, rfl, rfl, rfl, rfl⟩ rfl rfl rfl rfl rfl (by kernel_rfl) Try.func5 (by kernel_rfl)
    (of_decide_eq_true (by kernel_rfl)) (by unfold Func.isWrapper; first | (rw [if_pos (by decide +kernel)]; kernel_rfl) | (rw [if_neg (by decide +kernel)]; exact ⟨rfl, rfl⟩))
    (fun os started H enc _ => lifted os started H enc)
#print axioms proved
end hitLeast
