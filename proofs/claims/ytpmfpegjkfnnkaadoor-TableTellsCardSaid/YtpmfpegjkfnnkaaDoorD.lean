/- TableHoles' walk: a test is a hole just if nothing is done of it; a rule for all at the end leaves none. -/
import Derived.Test.YtpmfpegjkfnnkaaDoorB
import Derived.Test.YtpmfpegjkfnnkaaDoorQIn
namespace Go.Proofs.YtpmfpegjkfnnkaaDoor
open Go.RowKit Go.Mine Go.Mine.Table

/-- With: a copy, one place turned. -/
theorem with_any (xs : List Int) (ao : Option Addr) (cap i : Nat) (x : Int) (W : World) (hx : IntsAt .i64 W ao xs) (hi : i < xs.length) (hl : xs.length ≤ 1000000) :
    Calls Tryd.prog 10 #[.slice ao xs.length cap, .int .i64 i, .int .i64 x] W fun e w' => ∃ g cap, e = .returned (.slice (some ⟨g, 0, none⟩) xs.length cap) ∧ w'.ownsRow W.heap.size 3 1 (.slice (some ⟨g, 0, none⟩) xs.length cap) xs.length ((xs.set i x).map (Value.int .i64)) ∧ Below W.heap.size W w' := by
  obtain ⟨i0, hi0, hz0, hz1, hz2⟩ := info_parts info3
  obtain ⟨b, o, rfl, _⟩ := hx.plain (by omega)
  have hx1 : IntsAt .i64 (W.alloc (.cells #[] 3)) (some ⟨b, o, none⟩) xs := hx.below (Nat.le_refl _) ((Below.refl _ _).alloc (Nat.le_refl _) _)
  have HX := Lib.hid hx1.cells; clear hx1 hx
  have hown : (W.alloc (.cells #[] 3)).ownsRow W.heap.size 3 1 (.slice (some ⟨W.heap.size, 0, none⟩) 0 0) 0 [] := by
    have := World.ownsRow_lit (base := W.heap.size) (e := 3) (size := 1) W #[] 0 (Nat.le_refl _) (Nat.zero_le _) rfl
    simpa using this
  have hb0 : Below W.heap.size W (W.alloc (.cells #[] 3)) := (Below.refl _ _).alloc (Nat.le_refl _) _
  go_enter Tryd.func10, Tryd.ntmps10
  go_wp2_with (at_builtin; refine wpList_extend _ rfl _ _ 24 rfl W.heap.size 3 i0 (.int .i64 0) 1 8 Tryd.underlying24 hi0 hz0 hz1 hz2 rfl (by decide) _ _ _ rfl hown ⟨b, o, none⟩ xs.length cap (xs.map (Value.int .i64)) rfl (by simp) HX.out (ints1 _ _) (by omega) ?c3 ?c4 ?c5 ?_)
  case c3 => unfold maxLen; omega
  case c4 => omega
  case c5 => simp
  intro g cap1 w1 hown1 hg1
  try simp only [Nat.zero_add, List.nil_append] at hown1
  have hb1 := hb0.grown hg1 (by simp) (fun k hk => (hown.lt k hk).1)
  have hgs := (hown1.lt g rfl).1
  have hc : w1.cell? ⟨g, i, none⟩ = some (.int .i64 (xs.getD i 0)) := by rw [hown1.cellAt i (by omega)]; simp [hi]
  have hf := hown1.frozenAt i
  have hst := (hown1.stored i (.int .i64 x)).1
  have hb2 := hb1.setCell (p := ⟨g, i, none⟩) hgs (.int .i64 x)
  clear hown hb0 hg1 hb1 hown1
  go_wp2_with fail
  go_ret
  refine ⟨g, cap1, rfl, ?_, hb2⟩
  rw [← List.map_set] at hst
  exact hst

/-- A rule for all. -/
theorem fits_all (k : Nat) (t : Nat) : fits (List.replicate k (-1)) t = true := by
  rw [fits_iff]
  intro i hi
  left
  have : i < k := by simpa using hi
  simp [this]
theorem holes_none {rs : List Rl} (h : ∀ t, rs.any (fun r => fits r.when t) = true) : ∀ k, holesL rs k = []
  | 0 => rfl
  | k + 1 => by rw [holesL, holes_none h k, h k]; simp
/-- Is a test told none of? -/
theorem which_hole {m : Nat} {rs : List Rl} {t : Int} {a : Int} {ev : Value} {c : Int} (hok : tok m (rs.map Rl.when)) (h : WhichPost m rs t (.returned (.tuple #[.int .i64 a, ev]))) (hn : Num ev c) : (c == 2) = decide (t ∈ holesL rs (2 ^ m)) := by
  have hc : ∀ {d : Int}, Num (.iface 32 (.int .i64 d)) c → c = d := by
    intro d hd
    rcases hd with ⟨h, _⟩ | h
    · cases h
    · simpa using h.symm
  rcases h with ⟨g, _⟩ | ⟨_, g, he⟩ | ⟨_, g2, g3, he⟩ | ⟨_, g2, k, hk, hf, _, he⟩
  · exact absurd hok g
  · have e : a = 0 ∧ ev = .iface 32 (.int .i64 1) := by simpa using he
    obtain ⟨_, rfl⟩ := e
    have := hc hn
    subst this
    rw [show decide (t ∈ holesL rs (2 ^ m)) = false by
      rw [decide_eq_false_iff_not, holesL_mem]
      rintro ⟨s, h1, rfl, _⟩
      exact g ⟨by omega, by rw [Int.toNat_natCast]; omega⟩]
    rfl
  · have e : a = 0 ∧ ev = .iface 32 (.int .i64 2) := by simpa using he
    obtain ⟨_, rfl⟩ := e
    have := hc hn
    subst this
    rw [show decide (t ∈ holesL rs (2 ^ m)) = true by
      rw [decide_eq_true_iff, holesL_mem]
      refine ⟨t.toNat, ?_, by omega, ?_⟩
      · have := g2.2; rw [Int.toNat_natCast] at this; omega
      · rw [List.any_eq_false]; exact fun r hr => by rw [g3 r hr]; simp]
    rfl
  · have e : a = (rs.getD k default).to ∧ ev = .nilIface := by simpa using he
    obtain ⟨_, rfl⟩ := e
    have hc0 : c = 0 := by
      rcases hn with ⟨_, h⟩ | h
      · exact h
      · cases h
    subst hc0
    rw [show decide (t ∈ holesL rs (2 ^ m)) = false by
      rw [decide_eq_false_iff_not, holesL_mem]
      rintro ⟨s, h1, rfl, h2⟩
      rw [List.any_eq_false] at h2
      rw [Int.toNat_natCast] at hf
      exact absurd hf (h2 _ (by simp [hk]))]
    rfl
theorem made_ints (n : Nat) : (madeCells #[Value.int .i64 0] n).toList = (List.replicate n (0 : Int)).map (Value.int .i64) := by
  rw [toList_madeCells_one]; simp
/-- The first k places -1, the rest 0 but the first. -/
def negs (m k : Nat) : List Int := List.replicate k (-1) ++ ((List.replicate m 0).set 0 (-1)).drop k
theorem negs_len {m k : Nat} (h : k ≤ m) : (negs m k).length = m := by simp [negs]; omega
theorem negs_succ {m k : Nat} (h : k < m) : (negs m k).set k (-1) = negs m (k + 1) := by
  refine List.ext_getElem? fun t => ?_
  unfold negs
  rw [List.getElem?_set]
  by_cases e : k = t
  · subst e
    rw [if_pos rfl, if_pos (by simp; omega)]
    simp [List.getElem?_append]
  · rw [if_neg e]
    simp only [List.getElem?_append, List.length_replicate, List.getElem?_replicate, List.getElem?_drop]
    by_cases h1 : t < k
    · simp [h1, show t < k + 1 by omega]
    · rw [if_neg h1, if_neg (by omega), show k + (t - k) = k + 1 + (t - (k + 1)) by omega]
theorem negs_full (m : Nat) : negs m m = List.replicate m (-1) := by simp [negs]
theorem negs_get {m k : Nat} (h : k < m) : ∃ z, (negs m k)[k]? = some z := ⟨(negs m k)[k]'(by rw [negs_len (by omega)]; exact h), by simp⟩
theorem RulesAt.cells {w : World} {ao : Option Addr} {rs : List Rl} (h : RulesAt w ao rs) : ∀ ad, ao = some ad → ∀ j u, (rcells rs)[j]? = some u → w.cell? (ad.add j) = some u := by
  intro ad ha j u hu
  have hj : j < rs.length * 2 := by
    rcases Nat.lt_or_ge j (rs.length * 2) with h' | h'
    · exact h'
    · rw [List.getElem?_eq_none (by rw [rcells_len]; exact h')] at hu; cases hu
  obtain ⟨b, o, h1, h2, h3, _⟩ := h (j / 2) (by omega)
  rw [ha] at h1
  simp only [Option.some.injEq] at h1
  subst h1
  rw [Go.WideShapes.add_plain]
  rcases Nat.mod_two_eq_zero_or_one j with hm | hm
  · have e : j = j / 2 * 2 := by omega
    rw [e, rcells_fst rs _ (by omega)] at hu
    rw [e, h2]; exact hu
  · have e : j = j / 2 * 2 + 1 := by omega
    rw [e, rcells_snd rs _ (by omega)] at hu
    rw [e, ← Nat.add_assoc, h3]; exact hu
/-- What Holes tells of the rules with one more, for all. -/
def LastPost (k : Nat) (v ev : Value) : Prop := (k = 12 ∧ ∃ c, ev = .iface 32 (.int .i64 c)) ∨ (k ≠ 12 ∧ (∃ ao ac, v = .slice ao 0 ac) ∧ ev = .nilIface)
theorem last_any (m : Nat) (rs : List Rl) (r : Rl) (hr : r.when = List.replicate m (-1)) (hok : tok m (rs.map Rl.when)) (lo : Option Addr) (lc : Nat) (w : World) (hx : RulesAt w lo (rs ++ [r])) :
    Calls Tryd.prog 7 #[.int .i64 m, .slice lo (rs.length + 1) lc] w fun e w' => ∃ v ev, e = .returned (.tuple #[v, ev]) ∧ LastPost rs.length v ev ∧ Below w.heap.size w w' := by
  obtain ⟨m', hm', h1, h6, h12, hall⟩ := id hok
  obtain rfl : m = m' := by omega
  have hl12 : rs.length ≤ 12 := by simpa using h12
  have H := holes_any m (rs ++ [r]) lo lc w hx (by simp [maxLen]; omega)
  rw [List.length_append, List.length_singleton] at H
  refine H.mono ?_
  rintro e w' ⟨hp, hb⟩
  have hr0 : rf m r.when = 0 := by rw [hr]; exact rf_ok (by simp) (fun w hw => by have := List.eq_of_mem_replicate hw; omega)
  have hm : (rs ++ [r]).map Rl.when = rs.map Rl.when ++ [r.when] := by simp
  have hgood : rs.length ≠ 12 → tok m ((rs ++ [r]).map Rl.when) := fun h => by
    refine ⟨m, rfl, h1, h6, by simp; omega, fun j hj => ?_⟩
    rw [hm] at hj ⊢
    by_cases e : j < rs.length
    · rw [show (rs.map Rl.when ++ [r.when]).getD j [] = (rs.map Rl.when).getD j [] by simp [List.getElem?_append, e]]
      exact hall j (by simpa using e)
    · have : j = rs.length := by simp at hj; omega
      subst this
      rw [show (rs.map Rl.when ++ [r.when]).getD rs.length [] = r.when by simp]
      exact hr0
  rcases hp with ⟨hno, rfl⟩ | ⟨hyes, v, rfl, hv⟩
  · refine ⟨_, _, rfl, .inl ⟨?_, _, rfl⟩, hb⟩
    rcases Nat.decEq rs.length 12 with h | h
    · exact absurd (hgood h) hno
    · exact h
  · refine ⟨_, _, rfl, .inr ⟨?_, ?_, rfl⟩, hb⟩
    · rintro h
      obtain ⟨_, _, _, _, h', _⟩ := hyes
      simp at h'
      omega
    · rw [holes_none (fun t => by rw [List.any_eq_true]; exact ⟨r, by simp, by rw [hr]; exact fits_all m t⟩)] at hv
      obtain ⟨ao, ac, rfl⟩ := owns_shape hv
      exact ⟨ao, ac, rfl⟩
end Go.Proofs.YtpmfpegjkfnnkaaDoor
