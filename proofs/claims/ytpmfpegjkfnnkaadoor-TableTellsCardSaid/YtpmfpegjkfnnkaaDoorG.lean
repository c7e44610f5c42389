/- TableTells: plain law: what is scanned for comes to what the program tells. -/
import Derived.Test.YtpmfpegjkfnnkaaDoorE
import Derived.Test.YtpmfpegjkfnnkaaDoorTable6
import Derived.Test.YtpmfpegjkfnnkaaDoorSInts
namespace Go.Proofs.YtpmfpegjkfnnkaaDoor
open Go.RowKit Go.Mine Go.Mine.Table

/-- The number of the error, and what is done, of one test. -/
def FD (m : Nat) (rs : List Rl) (t f d : Int) : Prop :=
  (¬ (0 ≤ t ∧ t < ((2 ^ m : Nat) : Int)) ∧ f = 1 ∧ d = 0) ∨
  ((0 ≤ t ∧ t < ((2 ^ m : Nat) : Int)) ∧ (∀ r ∈ rs, fits r.when t.toNat = false) ∧ f = 2 ∧ d = 0) ∨
  ((0 ≤ t ∧ t < ((2 ^ m : Nat) : Int)) ∧ ∃ k : Nat, k < rs.length ∧ fits (rs.getD k default).when t.toNat = true ∧ (∀ j, j < k → fits (rs.getD j default).when t.toNat = false) ∧ f = 0 ∧ d = (rs.getD k default).to)
theorem getD_mem {rs : List Rl} {k : Nat} (h : k < rs.length) : rs.getD k default ∈ rs := by simp [h]
theorem which_val {m : Nat} {rs : List Rl} {t f d : Int} {e : Ending} (hok : tok m (rs.map Rl.when)) (hf : FD m rs t f d) (h : WhichPost m rs t e) : ∃ ev, e = .returned (.tuple #[.int .i64 d, ev]) ∧ Num ev f := by
  have hT : ((2 ^ (m : Int).toNat : Nat) : Int) = ((2 ^ m : Nat) : Int) := by rw [Int.toNat_natCast]
  rcases h with ⟨g, _⟩ | ⟨_, g, rfl⟩ | ⟨_, g2, g3, rfl⟩ | ⟨_, g2, k, hk, hfk, hfst, rfl⟩
  · exact absurd hok g
  · rw [hT] at g
    rcases hf with ⟨_, rfl, rfl⟩ | ⟨h, _⟩ | ⟨h, _⟩
    · exact ⟨_, rfl, .inr rfl⟩
    · exact absurd h g
    · exact absurd h g
  · rw [hT] at g2
    rcases hf with ⟨h, _⟩ | ⟨_, _, rfl, rfl⟩ | ⟨_, k, hk, hfk, _⟩
    · exact absurd g2 h
    · exact ⟨_, rfl, .inr rfl⟩
    · rw [g3 _ (getD_mem hk)] at hfk; cases hfk
  · rw [hT] at g2
    rcases hf with ⟨h, _⟩ | ⟨_, h, _⟩ | ⟨_, k', hk', hfk', hfst', rfl, rfl⟩
    · exact absurd g2 h
    · rw [h _ (getD_mem hk)] at hfk; cases hfk
    · have : k = k' := by
        rcases Nat.lt_trichotomy k k' with e | e | e
        · rw [hfst' k e] at hfk; cases hfk
        · exact e
        · rw [hfst k' e] at hfk'; cases hfk'
      subst this
      exact ⟨_, rfl, .inl ⟨rfl, rfl⟩⟩
/-- From behind: the last one that is met wins. -/
def scanL (s : Nat) : List Rl → Int × Int
  | [] => (2, 0)
  | r :: rs => if fits r.when s = true then (0, r.to) else scanL s rs
theorem scan_step {s : Nat} {rs : List Rl} {j : Nat} (h : j < rs.length) : scanL s (rs.drop j) = if fits (rs.getD j default).when s = true then (0, (rs.getD j default).to) else scanL s (rs.drop (j + 1)) := by
  rw [List.drop_eq_getElem_cons h, scanL]
  simp [h]
theorem scan_FD {m s : Nat} (hs : s < 2 ^ m) : ∀ rs : List Rl, FD m rs s (scanL s rs).1 (scanL s rs).2
  | [] => .inr (.inl ⟨⟨by omega, by omega⟩, by simp, rfl, rfl⟩)
  | r :: rs => by
    rw [scanL]
    by_cases h : fits r.when s = true
    · rw [if_pos h]
      exact .inr (.inr ⟨⟨by omega, by omega⟩, 0, by simp, by simpa using h, fun j hj => by omega, rfl, rfl⟩)
    · rw [if_neg h]
      have hF : fits r.when s = false := by simpa using h
      rcases scan_FD hs rs with ⟨h', _⟩ | ⟨h', h2, h3⟩ | ⟨h', k, hk, h2, h3, h4⟩
      · exact absurd ⟨by omega, by omega⟩ h'
      · refine .inr (.inl ⟨h', fun r' hr' => ?_, h3⟩)
        rcases List.mem_cons.1 hr' with rfl | hr'
        · simpa using hF
        · exact h2 r' hr'
      · refine .inr (.inr ⟨h', k + 1, by simpa using hk, by simpa using h2, fun j hj => ?_, by simpa using h4⟩)
        cases j with
        | zero => simpa using hF
        | succ j => simpa using h3 j (by omega)
theorem any_step {rs : List Rl} {i : Nat} (h : i < rs.length) (p : Rl → Bool) : (rs.take (i + 1)).any p = ((rs.take i).any p || p (rs.getD i default)) := by
  rw [List.take_succ_eq_append_getElem h, List.any_append]
  simp [h]

/-- The first pair of those that P has, that clashes. -/
def Gd (rs : List Rl) (P : Nat → Nat → Prop) (g a b : Int) : Prop :=
  (g = 2 ∧ a = 0 ∧ b = 0 ∧ ∀ i k, i < k → k < rs.length → P i k → cl rs i k = false) ∨
  (g = 0 ∧ ∃ i k : Nat, a = i ∧ b = k ∧ i < k ∧ k < rs.length ∧ cl rs i k = true ∧ P i k ∧ ∀ i' k', i' < k' → k' < rs.length → P i' k' → (i' < i ∨ i' = i ∧ k' < k) → cl rs i' k' = false)
theorem gd_iff {rs : List Rl} {P P' : Nat → Nat → Prop} {g a b : Int} (h : Gd rs P g a b) (hp : ∀ i k, i < k → k < rs.length → (P i k ↔ P' i k)) : Gd rs P' g a b := by
  rcases h with ⟨h1, h2, h3, h4⟩ | ⟨h1, i, k, h2, h3, h4, h5, h6, h7, h8⟩
  · exact .inl ⟨h1, h2, h3, fun i k g1 g2 g3 => h4 i k g1 g2 ((hp i k g1 g2).2 g3)⟩
  · exact .inr ⟨h1, i, k, h2, h3, h4, h5, h6, (hp i k h4 h5).1 h7, fun i' k' g1 g2 g3 g4 => h8 i' k' g1 g2 ((hp i' k' g1 g2).2 g3) g4⟩
theorem gd_new {rs : List Rl} {P P' : Nat → Nat → Prop} {i k : Nat} (hik : i < k) (hk : k < rs.length) (hp : ∀ i' k', i' < k' → k' < rs.length → P' i' k' → P i' k' ∨ i' = i ∧ k' = k) (hin : P' i k)
    (hlow : ∀ i' k', P i' k' → ¬ (i' < i ∨ i' = i ∧ k' < k)) (hc : cl rs i k = true) : Gd rs P' 0 i k :=
  .inr ⟨rfl, i, k, rfl, rfl, hik, hk, hc, hin, fun i' k' g1 g2 g3 g4 => by
    rcases hp i' k' g1 g2 g3 with h | ⟨h, h'⟩
    · exact absurd g4 (hlow i' k' h)
    · omega⟩
theorem gd_old {rs : List Rl} {P P' : Nat → Nat → Prop} {g a b : Int} {i k : Nat} (h : Gd rs P g a b) (hsub : ∀ i' k', P i' k' → P' i' k') (hp : ∀ i' k', i' < k' → k' < rs.length → P' i' k' → P i' k' ∨ i' = i ∧ k' = k) (hc : cl rs i k = false) : Gd rs P' g a b := by
  rcases h with ⟨h1, h2, h3, h4⟩ | ⟨h1, i0, k0, h2, h3, h4, h5, h6, h7, h8⟩
  · refine .inl ⟨h1, h2, h3, fun i' k' g1 g2 g3 => ?_⟩
    rcases hp i' k' g1 g2 g3 with h | ⟨rfl, rfl⟩
    · exact h4 i' k' g1 g2 h
    · exact hc
  · refine .inr ⟨h1, i0, k0, h2, h3, h4, h5, h6, hsub _ _ h7, fun i' k' g1 g2 g3 g4 => ?_⟩
    rcases hp i' k' g1 g2 g3 with h | ⟨rfl, rfl⟩
    · exact h8 i' k' g1 g2 h g4
    · exact hc
theorem clash_val {m : Nat} {rs : List Rl} {g a b : Int} {e : Ending} (hok : tok m (rs.map Rl.when)) (hg : Gd rs (fun _ _ => True) g a b) (h : ClashPost m rs e) : ∃ ev, e = .returned (.tuple #[.int .i64 a, .int .i64 b, ev]) ∧ Num ev g := by
  rcases h with ⟨h, _⟩ | ⟨_, h, rfl⟩ | ⟨_, i, k, hik, hk, hc, h1, h2, rfl⟩
  · exact absurd hok h
  · rcases hg with ⟨rfl, rfl, rfl, _⟩ | ⟨_, i, k, _, _, hik, hk, hc, _⟩
    · exact ⟨_, rfl, .inr rfl⟩
    · rw [h i k hik hk] at hc; cases hc
  · rcases hg with ⟨_, _, _, h⟩ | ⟨rfl, i', k', rfl, rfl, hik', hk', hc', _, h'⟩
    · rw [h i k hik hk trivial] at hc; cases hc
    · have ei : i = i' := by
        rcases Nat.lt_trichotomy i i' with e | e | e
        · rw [h' i k hik hk trivial (.inl e)] at hc; cases hc
        · exact e
        · rw [h1 i' k' e hik' hk'] at hc'; cases hc'
      subst ei
      have ek : k = k' := by
        rcases Nat.lt_trichotomy k k' with e | e | e
        · rw [h' i k hik hk trivial (.inr ⟨rfl, e⟩)] at hc; cases hc
        · exact e
        · rw [h2 k' hik' e] at hc'; cases hc'
      subst ek
      exact ⟨_, rfl, .inl ⟨rfl, rfl⟩⟩
/-- Of the first t tests one is met by both, and unlike things are done. -/
def hit (r s : Rl) (t : Nat) : Bool := decide (r.to ≠ s.to) && (List.range t).any fun u => fits r.when u && fits s.when u
theorem hit_succ (r s : Rl) (t : Nat) : hit r s (t + 1) = (hit r s t || (decide (r.to ≠ s.to) && (fits r.when t && fits s.when t))) := by
  unfold hit
  rw [List.range_succ, List.any_append]
  cases decide (r.to ≠ s.to) <;> simp
theorem hit_full {m : Nat} {rs : List Rl} (hall : ∀ j, j < (rs.map Rl.when).length → rf m ((rs.map Rl.when).getD j []) = 0) {i k : Nat} (hi : i < rs.length) (hk : k < rs.length) : hit (rs.getD i default) (rs.getD k default) (2 ^ m) = cl rs i k := by
  have h1 := hall i (by simpa using hi)
  have h2 := hall k (by simpa using hk)
  rw [when_get hi] at h1
  rw [when_get hk] at h2
  unfold hit cl
  congr 1
  rw [Bool.eq_iff_iff, List.any_eq_true]
  constructor
  · rintro ⟨t, _, ht⟩
    rw [Bool.and_eq_true] at ht
    exact fits_meets (by rw [(rf_zero h1).1, (rf_zero h2).1]) ht.1 ht.2
  · intro h
    obtain ⟨g1, g2, g3⟩ := meets_fits h1 h2 h
    exact ⟨_, List.mem_range.2 g1, by rw [g2, g3]; rfl⟩
/-- What the pair's first t tests have left. -/
def HitSt (h : Bool) (i k : Nat) (g a b g' a' b' : Int) : Prop := (h = true ∧ g' = 0 ∧ a' = i ∧ b' = k) ∨ (h = false ∧ g' = g ∧ a' = a ∧ b' = b)
theorem hitSt_yes {h : Bool} {i k : Nat} {g a b : Int} (hh : h = true) : HitSt h i k g a b 0 i k := .inl ⟨hh, rfl, rfl, rfl⟩
theorem hitSt_step {h h' : Bool} {i k : Nat} {g a b g' a' b' : Int} (hs : HitSt h i k g a b g' a' b') (e : h' = h) : HitSt h' i k g a b g' a' b' := by subst e; exact hs
theorem error_same (x : Value) (c : Int) (hx : Num x c) (w : World) (hg : Laid w) :
    Calls Tryd.prog 9 #[x, .int .i64 c] w fun e w' => e = .returned (.bool true) ∧ Below w.heap.size w w' :=
  (error_is x c c hx w hg).mono fun _ _ ⟨he, hb⟩ => ⟨by rw [he]; simp, hb⟩
theorem fits_call {m : Nat} {rs : List Rl} (hall : ∀ j, j < (rs.map Rl.when).length → rf m ((rs.map Rl.when).getD j []) = 0) (hm : m ≤ 6) {r : Rl} (hr : r ∈ rs) {t : Nat} (ht : t < 64) {lo : Option Addr} {w : World} (hx : RulesAt w lo rs) :
    Calls Tryd.prog 16 #[.agg #[.slice r.sa r.when.length r.cap, .int .i64 r.to], .int .i64 t] w fun e w' => e = .returned (.bool (fits r.when t)) ∧ Below w.heap.size w w' := by
  obtain ⟨h1, h2, h3⟩ := rule_at hx hall hr
  exact qfits_any r t ht (by omega) h2 w h3
end Go.Proofs.YtpmfpegjkfnnkaaDoor
