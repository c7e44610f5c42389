/- A tour goes all edges just if all are met: plain numbers, no program. -/
import Derived.Test.YtnbnfgljbhidbaaDoorQ
import Derived.Test.YtnbnfgljbhidbaaDoorMet
namespace Go.Mine.Tour
open Go.Mine.Flow (R natE natE_mem)

theorem End.starts {es : List (Int × Int)} {n : Nat} {next : List (List Int)} {out : List Int} (h : End es n next out) (hst : ∀ e ∈ es, e.1 ∈ out) : out.length = es.length + 1 := by
  have hf := flat_empty next (by
    intro i hi
    cases hrow : next.getD i [] with
    | nil => rfl
    | cons x t =>
      exfalso
      have hin : (i : Int) < n := by rw [← h.len]; omega
      have h1 := h.all (i : Int) x (by omega) hin
      have h2 : Tour.rem next (i : Int) x = (x :: t).count x := by unfold Tour.rem; rw [Int.toNat_natCast, hrow]
      have h3 : 0 < (x :: t).count x := List.count_pos_iff.2 (by simp)
      have h4 : ((i : Int), x) ∈ es := List.count_pos_iff.1 (by omega)
      have h5 := h.gone _ (hst _ h4)
      rw [Int.toNat_natCast, hrow] at h5
      cases h5)
  have := h.many
  omega
theorem cnt_tail (a b x : Int) (l : List Int) : cnt a b l ≤ cnt a b (x :: l) := by
  cases l with
  | nil => simp [cnt]
  | cons y l => simp only [cnt]; omega
theorem chain_met {es : List (Int × Int)} (hr : ∀ e ∈ es, 0 ≤ e.1 ∧ 0 ≤ e.2) : ∀ (l : List Int) (c : Int), 0 ≤ c → R (natE es) (-1) c.toNat → (∀ a b, 0 < cnt a b (c :: l) → (a, b) ∈ es) → ∀ x ∈ c :: l, R (natE es) (-1) x.toNat
  | [], c, _, h, _, x, hx => by
    have : x = c := by simpa using hx
    rw [this]; exact h
  | y :: l, c, hc, h, hp, x, hx => by
    rcases List.mem_cons.1 hx with rfl | hx
    · exact h
    · have he : (c, y) ∈ es := hp c y (by simp [cnt]; omega)
      have hy := (hr _ he).2
      simp only at hy
      have hm : (c.toNat, y.toNat) ∈ natE es := (natE_mem hr).2 (by rw [Int.toNat_of_nonneg hc, Int.toNat_of_nonneg hy]; exact he)
      exact chain_met hr l y hy (h.step hm (by omega)) (fun a b hab => hp a b (Nat.lt_of_lt_of_le hab (cnt_tail a b c (y :: l)))) x hx
theorem End.reach {es : List (Int × Int)} {n : Nat} {next : List (List Int)} {out : List Int} (h : End es n next out) (hr : ∀ e ∈ es, 0 ≤ e.1 ∧ e.1 < n ∧ 0 ≤ e.2 ∧ e.2 < n) :
    out.length = es.length + 1 ↔ ∀ e ∈ es, R (natE es) (-1) e.1.toNat := by
  have hr2 : ∀ e ∈ es, 0 ≤ e.1 ∧ 0 ≤ e.2 := fun e he => ⟨(hr e he).1, (hr e he).2.2.1⟩
  constructor
  · intro ho e he
    have hfull := h.full ho
    have hlast := h.last
    cases hrev : out.reverse with
    | nil =>
      have : out = [] := by simpa using hrev
      rw [this] at hlast
      cases hlast
    | cons c l =>
      have hc : c = 0 := by
        have h1 : out.reverse.head? = some c := by rw [hrev]; rfl
        rw [List.head?_reverse, hlast] at h1
        exact (Option.some.inj h1).symm
      have hall := chain_met hr2 l c (by omega) (by rw [hc]; exact R.start (by omega)) (fun a b hab => by
        rw [← hrev] at hab
        have ha := (cnt_mem a b out.reverse hab).1
        have hain := h.in_out a (by simpa using ha)
        have := hfull a b hain.1 hain.2
        exact List.count_pos_iff.1 (by omega))
      have h0 : 0 < es.count (e.1, e.2) := List.count_pos_iff.2 he
      have h1 := hfull e.1 e.2 (hr e he).1 (hr e he).2.1
      have h2 := (cnt_mem e.1 e.2 out.reverse (by omega)).1
      rw [hrev] at h2
      exact hall _ h2
  · intro hall
    refine h.starts fun e he => ?_
    have hstep : ∀ e ∈ es, e.1 ∈ out → e.2 ∈ out := by
      intro e he ho
      have h1 := h.all e.1 e.2 (hr e he).1 (hr e he).2.1
      have h2 : 0 < es.count (e.1, e.2) := List.count_pos_iff.2 he
      have h3 : Tour.rem next e.1 e.2 = 0 := by unfold Tour.rem; rw [h.gone _ ho]; rfl
      have := (cnt_mem e.1 e.2 out.reverse (by omega)).2
      simpa using this
    have h0 : (0 : Int) ∈ out := List.mem_of_mem_head? (by rw [h.first]; simp)
    have := hall e he (fun v => (v : Int) ∈ out) (fun _ => h0) (fun u w hu hm _ => hstep _ ((natE_mem hr2).1 hm) hu)
    rwa [Int.toNat_of_nonneg (hr e he).1] at this
end Go.Mine.Tour
