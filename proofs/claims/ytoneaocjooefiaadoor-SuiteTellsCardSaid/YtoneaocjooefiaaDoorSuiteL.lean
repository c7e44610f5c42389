/- The fewest tests: what is looked through, and that it is the least. Plain numbers, no program. -/
import Derived.Test.YtoneaocjooefiaaDoorSuiteP
namespace Go.Mine.Suite

def shorter (taken : List Nat) : Option (List Nat) → Bool
  | none => true
  | some b => decide (taken.length < b.length)
def room (taken : List Nat) : Option (List Nat) → Bool
  | none => true
  | some b => decide (taken.length + 1 < b.length)
/-- What look leaves as the best one. -/
def lookF (ts : List Nat) : Nat → Nat → Nat → List Nat → Option (List Nat) → Option (List Nat)
  | 0, _, o, taken, best => if o = 0 then (if shorter taken best = true then some taken else best) else best
  | f + 1, k, o, taken, best => if o = 0 then (if shorter taken best = true then some taken else best) else
      if room taken best = true then (List.range' k (ts.length - k)).foldl (fun best i => lookF ts f (i + 1) (dif o (ts.getD i 0)) (taken ++ [i]) best) best else best
/-- .. behind the first so many of the loop. -/
def foldF (ts : List Nat) (f k o : Nat) (taken : List Nat) (best : Option (List Nat)) (m : Nat) : Option (List Nat) :=
  (List.range' k m).foldl (fun best i => lookF ts f (i + 1) (dif o (ts.getD i 0)) (taken ++ [i]) best) best
theorem foldF_succ (ts : List Nat) (f k o : Nat) (taken : List Nat) (best : Option (List Nat)) (m : Nat) : foldF ts f k o taken best (m + 1) = lookF ts f (k + m + 1) (dif o (ts.getD (k + m) 0)) (taken ++ [k + m]) (foldF ts f k o taken best m) := by
  unfold foldF
  rw [List.range'_concat, List.foldl_append]
  simp
theorem lookF_open {ts : List Nat} {f k o : Nat} {taken : List Nat} {best : Option (List Nat)} (h : o ≠ 0) (hr : room taken best = true) : lookF ts (f + 1) k o taken best = foldF ts f k o taken best (ts.length - k) := by
  rw [lookF, if_neg h, if_pos hr]; rfl
theorem lookF_shut {ts : List Nat} {f k o : Nat} {taken : List Nat} {best : Option (List Nat)} (h : o ≠ 0) (hr : room taken best = false) : lookF ts f k o taken best = best := by
  cases f with
  | zero => rw [lookF, if_neg h]
  | succ f => rw [lookF, if_neg h, if_neg (by rw [hr]; simp)]
theorem lookF_zero {ts : List Nat} {f k : Nat} {taken : List Nat} {best : Option (List Nat)} : lookF ts f k 0 taken best = if shorter taken best = true then some taken else best := by
  cases f <;> rw [lookF, if_pos rfl]
theorem lookF_last {ts : List Nat} {f k o : Nat} {taken : List Nat} {best : Option (List Nat)} (h : o ≠ 0) (hk : ts.length ≤ k) : lookF ts f k o taken best = best := by
  cases f with
  | zero => rw [lookF, if_neg h]
  | succ f =>
    rw [lookF, if_neg h]
    by_cases hr : room taken best = true
    · rw [if_pos hr, show ts.length - k = 0 by omega]; rfl
    · rw [if_neg hr]

def lexLe : List Nat → List Nat → Prop
  | [], _ => True
  | _ :: _, [] => False
  | a :: as, b :: bs => a < b ∨ (a = b ∧ lexLe as bs)
theorem lexLe_refl : ∀ l, lexLe l l
  | [] => trivial
  | _ :: l => .inr ⟨rfl, lexLe_refl l⟩
theorem lexLe_append : ∀ {t a b : List Nat}, lexLe (t ++ a) (t ++ b) ↔ lexLe a b
  | [], _, _ => Iff.rfl
  | x :: t, a, b => by
    simp only [List.cons_append, lexLe]
    rw [lexLe_append]
    constructor
    · rintro (h | ⟨_, h⟩)
      · omega
      · exact h
    · exact fun h => .inr ⟨by first | trivial | rfl, h⟩
theorem lexLe_antisymm : ∀ {a b : List Nat}, a.length = b.length → lexLe a b → lexLe b a → a = b
  | [], [], _, _, _ => rfl
  | a :: as, b :: bs, hl, h1, h2 => by
    simp only [lexLe] at h1 h2
    have : a = b := by omega
    subst this
    have g1 : lexLe as bs := h1.elim (fun h => absurd h (Nat.lt_irrefl _)) (fun h => h.2)
    have g2 : lexLe bs as := h2.elim (fun h => absurd h (Nat.lt_irrefl _)) (fun h => h.2)
    rw [lexLe_antisymm (by simpa using hl) g1 g2]

/-- What is enough, on from what is taken. -/
def Cand (ts : List Nat) (k o : Nat) (taken c : List Nat) : Prop := ∃ s, c = taken ++ s ∧ s.Pairwise (· < ·) ∧ (∀ i ∈ s, k ≤ i ∧ i < ts.length) ∧ Sub o (orAt ts s)
theorem sub_cons {ts : List Nat} (hts : ∀ t ∈ ts, t < 4294967296) {o i : Nat} {s : List Nat} (ho : o < 4294967296) : Sub o (orAt ts (i :: s)) ↔ Sub (dif o (ts.getD i 0)) (orAt ts s) := by
  constructor
  · intro h j hj
    rw [dif_bit' ho (get_lt hts i), Bool.and_eq_true, Bool.not_eq_true'] at hj
    have := h j hj.1
    rw [orAt_bit, List.any_cons, hj.2, Bool.false_or, ← orAt_bit] at this
    exact this
  · intro h j hj
    rw [orAt_bit, List.any_cons]
    cases hb : (ts.getD i 0).testBit j
    · have := h j (by rw [dif_bit' ho (get_lt hts i), hj, hb]; rfl)
      rw [orAt_bit] at this
      rw [this]; rfl
    · rfl
/-- Those that go on with one less than m. -/
def CandLt (ts : List Nat) (k o : Nat) (taken : List Nat) (m : Nat) (c : List Nat) : Prop := ∃ i s, k ≤ i ∧ i < m ∧ c = taken ++ i :: s ∧ (i :: s).Pairwise (· < ·) ∧ (∀ j ∈ s, i + 1 ≤ j ∧ j < ts.length) ∧ Sub o (orAt ts (i :: s))
/-- r: the best one of what was there and of C, those ahead first. -/
def Best (C : List Nat → Prop) (best r : Option (List Nat)) : Prop :=
  (r = best ∨ ∃ c, r = some c ∧ C c ∧ (∀ b, best = some b → c.length < b.length) ∧ ∀ c', C c' → c'.length = c.length → lexLe c c') ∧ ∀ c', C c' → ∃ b, r = some b ∧ b.length ≤ c'.length
theorem Best.le {C : List Nat → Prop} {best r : Option (List Nat)} (h : Best C best r) {b : List Nat} (hb : best = some b) : ∃ b', r = some b' ∧ b'.length ≤ b.length := by
  rcases h.1 with h1 | ⟨c, h1, _, h2, _⟩
  · exact ⟨b, by rw [h1, hb], Nat.le_refl _⟩
  · exact ⟨c, h1, Nat.le_of_lt (h2 b hb)⟩

theorem look_best {ts : List Nat} (hts : ∀ t ∈ ts, t < 4294967296) : ∀ (f k o : Nat) (taken : List Nat) (best : Option (List Nat)), ts.length - k ≤ f → o < 4294967296 → Best (Cand ts k o taken) best (lookF ts f k o taken best) := by
  intro f
  induction f with
  | zero =>
    intro k o taken best hf ho
    by_cases h0 : o = 0
    · subst h0
      rw [lookF_zero]
      by_cases hs : shorter taken best = true
      · rw [if_pos hs]
        refine ⟨.inr ⟨taken, rfl, ⟨[], by simp, by simp, by simp, fun i hi => by simp at hi⟩, fun b hb => ?_, fun c' hc' hl => ?_⟩, fun c' hc' => ⟨taken, rfl, ?_⟩⟩
        · subst hb; simpa [shorter] using hs
        · obtain ⟨s, rfl, _⟩ := hc'
          have : s = [] := List.eq_nil_of_length_eq_zero (by simp at hl; simp [hl])
          subst this; rw [List.append_nil]; exact lexLe_refl _
        · obtain ⟨s, rfl, _⟩ := hc'; simp
      · rw [if_neg hs]
        refine ⟨.inl rfl, fun c' hc' => ?_⟩
        obtain ⟨s, rfl, _⟩ := hc'
        cases best with
        | none => simp [shorter] at hs
        | some b => exact ⟨b, rfl, by simp [shorter] at hs ⊢; omega⟩
    · rw [lookF_last h0 (by omega)]
      refine ⟨.inl rfl, fun c' hc' => ?_⟩
      obtain ⟨s, rfl, _, h2, h3⟩ := hc'
      cases s with
      | nil =>
        obtain ⟨i, hi⟩ := Nat.exists_testBit_of_ne_zero h0
        have := h3 i hi
        simp [orAt_bit] at this
      | cons i s => have := h2 i (by simp); omega
  | succ f ih =>
    intro k o taken best hf ho
    by_cases h0 : o = 0
    · subst h0
      rw [lookF_zero]
      by_cases hs : shorter taken best = true
      · rw [if_pos hs]
        refine ⟨.inr ⟨taken, rfl, ⟨[], by simp, by simp, by simp, fun i hi => by simp at hi⟩, fun b hb => ?_, fun c' hc' hl => ?_⟩, fun c' hc' => ⟨taken, rfl, ?_⟩⟩
        · subst hb; simpa [shorter] using hs
        · obtain ⟨s, rfl, _⟩ := hc'
          have : s = [] := List.eq_nil_of_length_eq_zero (by simp at hl; simp [hl])
          subst this; rw [List.append_nil]; exact lexLe_refl _
        · obtain ⟨s, rfl, _⟩ := hc'; simp
      · rw [if_neg hs]
        refine ⟨.inl rfl, fun c' hc' => ?_⟩
        obtain ⟨s, rfl, _⟩ := hc'
        cases best with
        | none => simp [shorter] at hs
        | some b => exact ⟨b, rfl, by simp [shorter] at hs ⊢; omega⟩
    · have hne : ∀ c, Cand ts k o taken c → CandLt ts k o taken ts.length c := by
        rintro c ⟨s, rfl, h1, h2, h3⟩
        cases s with
        | nil =>
          obtain ⟨i, hi⟩ := Nat.exists_testBit_of_ne_zero h0
          have := h3 i hi
          simp [orAt_bit] at this
        | cons i s =>
          have hi := h2 i (by simp)
          exact ⟨i, s, hi.1, hi.2, rfl, h1, fun j hj => ⟨(List.pairwise_cons.1 h1).1 j hj, (h2 j (by simp [hj])).2⟩, h3⟩
      have hen : ∀ c, CandLt ts k o taken ts.length c → Cand ts k o taken c := by
        rintro c ⟨i, s, h1, h2, rfl, h3, h4, h5⟩
        refine ⟨i :: s, rfl, h3, fun j hj => ?_, h5⟩
        rcases List.mem_cons.1 hj with rfl | hj
        · exact ⟨h1, h2⟩
        · have := h4 j hj; omega
      by_cases hr : room taken best = true
      · rw [lookF_open h0 hr]
        have key : ∀ m, k + m ≤ ts.length ∨ m = 0 → Best (CandLt ts k o taken (k + m)) best (foldF ts f k o taken best m) := by
          intro m
          induction m with
          | zero =>
            intro _
            exact ⟨.inl rfl, fun c' ⟨i, s, h1, h2, _⟩ => by omega⟩
          | succ m ihm =>
            intro hm
            have hm' : k + m + 1 ≤ ts.length := by omega
            have I := ihm (.inl (by omega))
            rw [foldF_succ]
            have J := ih (k + m + 1) (dif o (ts.getD (k + m) 0)) (taken ++ [k + m]) (foldF ts f k o taken best m) (by omega) (dif_lt ho)
            obtain ⟨b, hb⟩ : ∃ b, b = foldF ts f k o taken best m := ⟨_, rfl⟩
            obtain ⟨r, hr'⟩ : ∃ r, r = lookF ts f (k + m + 1) (dif o (ts.getD (k + m) 0)) (taken ++ [k + m]) b := ⟨_, rfl⟩
            rw [← hb] at I J ⊢
            rw [← hr'] at J ⊢
            have hin : ∀ c, Cand ts (k + m + 1) (dif o (ts.getD (k + m) 0)) (taken ++ [k + m]) c → CandLt ts k o taken (k + (m + 1)) c := by
              rintro c ⟨s, rfl, h1, h2, h3⟩
              refine ⟨k + m, s, by omega, by omega, by simp, List.pairwise_cons.2 ⟨fun j hj => by have := h2 j hj; omega, h1⟩, h2, (sub_cons hts ho).2 h3⟩
            have hsplit : ∀ c, CandLt ts k o taken (k + (m + 1)) c → CandLt ts k o taken (k + m) c ∨ (Cand ts (k + m + 1) (dif o (ts.getD (k + m) 0)) (taken ++ [k + m]) c) := by
              rintro c ⟨i, s, h1, h2, rfl, h3, h4, h5⟩
              by_cases e : i = k + m
              · subst e
                exact .inr ⟨s, by simp, (List.pairwise_cons.1 h3).2, h4, (sub_cons hts ho).1 h5⟩
              · exact .inl ⟨i, s, h1, by omega, rfl, h3, h4, h5⟩
            have hup : ∀ c, CandLt ts k o taken (k + m) c → CandLt ts k o taken (k + (m + 1)) c := by
              rintro c ⟨i, s, h1, h2, h⟩
              exact ⟨i, s, h1, by omega, h⟩
            have hlex : ∀ c c', CandLt ts k o taken (k + m) c → Cand ts (k + m + 1) (dif o (ts.getD (k + m) 0)) (taken ++ [k + m]) c' → lexLe c c' := by
              rintro c c' ⟨i, s, h1, h2, rfl, _⟩ ⟨s', rfl, _⟩
              rw [List.append_assoc, lexLe_append]
              exact .inl h2
            refine ⟨?_, fun c' hc' => ?_⟩
            · rcases J.1 with h1 | ⟨c, h1, h2, h3, h4⟩
              · rw [h1]
                rcases I.1 with g1 | ⟨c, g1, g2, g3, g4⟩
                · exact .inl g1
                · refine .inr ⟨c, g1, hup c g2, g3, fun c' hc' hl => ?_⟩
                  rcases hsplit c' hc' with h | h
                  · exact g4 c' h hl
                  · exact hlex c c' g2 h
              · refine .inr ⟨c, h1, hin c h2, fun b0 hb0 => ?_, fun c' hc' hl => ?_⟩
                · obtain ⟨b', e1, e2⟩ := I.le hb0
                  have := h3 b' e1; omega
                · rcases hsplit c' hc' with h | h
                  · obtain ⟨b', e1, e2⟩ := I.2 c' h
                    have := h3 b' e1; omega
                  · exact h4 c' h hl
            · rcases hsplit c' hc' with h | h
              · obtain ⟨b', e1, e2⟩ := I.2 c' h
                obtain ⟨b'', e3, e4⟩ := J.le e1
                exact ⟨b'', e3, by omega⟩
              · exact J.2 c' h
        by_cases hk : k ≤ ts.length
        · have K := key (ts.length - k) (.inl (by omega))
          rw [show k + (ts.length - k) = ts.length by omega] at K
          refine ⟨?_, fun c' hc' => K.2 c' (hne c' hc')⟩
          rcases K.1 with g1 | ⟨c, g1, g2, g3, g4⟩
          · exact .inl g1
          · exact .inr ⟨c, g1, hen c g2, g3, fun c' hc' => g4 c' (hne c' hc')⟩
        · have e : ts.length - k = 0 := by omega
          rw [e]
          refine ⟨.inl rfl, fun c' hc' => ?_⟩
          obtain ⟨i, s, h1, h2, _⟩ := hne c' hc'
          omega
      · have hr' : room taken best = false := by simpa using hr
        rw [lookF_shut h0 hr']
        refine ⟨.inl rfl, fun c' hc' => ?_⟩
        obtain ⟨i, s, h1, h2, rfl, _⟩ := hne c' hc'
        cases best with
        | none => simp [room] at hr
        | some b => exact ⟨b, rfl, by simp [room] at hr ⊢; omega⟩

/-- The fewest tests that are enough, and the first ones of them. -/
structure Fewest (ts b : List Nat) : Prop where
  rise : b.Pairwise (· < ·)
  lt : ∀ i ∈ b, i < ts.length
  enough : Sub (orAll ts) (orAt ts b)
  least : ∀ c : List Nat, c.Pairwise (· < ·) → (∀ i ∈ c, i < ts.length) → Sub (orAll ts) (orAt ts c) → b.length ≤ c.length ∧ (b.length = c.length → lexLe b c)
theorem all_enough (ts : List Nat) : Sub (orAll ts) (orAt ts (List.range ts.length)) := fun i hi => by
  rw [orAll_bit, List.any_eq_true] at hi
  obtain ⟨t, ht, hti⟩ := hi
  obtain ⟨k, hk, rfl⟩ := List.mem_iff_getElem.1 ht
  rw [orAt_bit, List.any_eq_true]
  exact ⟨k, List.mem_range.2 hk, by rw [show ts.getD k 0 = ts[k] by simp [hk]]; exact hti⟩
theorem fewest_of {ts : List Nat} (hts : ∀ t ∈ ts, t < 4294967296) : ∃ b, lookF ts ts.length 0 (orAll ts) [] none = some b ∧ Fewest ts b := by
  have h := look_best hts ts.length 0 (orAll ts) [] none (by omega) (orAll_lt hts)
  have hin : ∀ c : List Nat, c.Pairwise (· < ·) → (∀ i ∈ c, i < ts.length) → Sub (orAll ts) (orAt ts c) → Cand ts 0 (orAll ts) [] c := fun c h1 h2 h3 => ⟨c, rfl, h1, fun i hi => ⟨Nat.zero_le _, h2 i hi⟩, h3⟩
  obtain ⟨b0, e0, _⟩ := h.2 (List.range ts.length) (hin _ List.pairwise_lt_range (fun i hi => List.mem_range.1 hi) (all_enough ts))
  rcases h.1 with h1 | ⟨c, h1, ⟨s, hcs, h2, h3, h4⟩, _, h5⟩
  · rw [h1] at e0; cases e0
  · obtain rfl : c = s := by simpa using hcs
    refine ⟨c, by simpa using h1, h2, fun i hi => (h3 i hi).2, h4, fun c' g1 g2 g3 => ?_⟩
    obtain ⟨b', e1, e2⟩ := h.2 c' (hin c' g1 g2 g3)
    rw [h1] at e1
    obtain rfl := Option.some.inj e1
    exact ⟨by simpa using e2, fun hl => by have := h5 c' (hin c' g1 g2 g3) (by simpa using hl.symm); simpa using this⟩
theorem Fewest.unique {ts a b : List Nat} (ha : Fewest ts a) (hb : Fewest ts b) : a = b := by
  have h1 := ha.least b hb.rise hb.lt hb.enough
  have h2 := hb.least a ha.rise ha.lt ha.enough
  have hl : a.length = b.length := by omega
  exact lexLe_antisymm hl (h1.2 hl) (h2.2 hl.symm)
/-- None of them can be missed. -/
theorem Fewest.none_less {ts b : List Nat} (h : Fewest ts b) {i : Nat} (hi : i < b.length) : ¬ Sub (orAll ts) (orAt ts (b.eraseIdx i)) := fun hs => by
  have := (h.least (b.eraseIdx i) (h.rise.sublist (List.eraseIdx_sublist _ _)) (fun j hj => h.lt j (List.mem_of_mem_eraseIdx hj)) hs).1
  rw [List.length_eraseIdx, if_pos hi] at this
  omega
theorem nodup_le : ∀ {s l : List Nat}, s.Nodup → (∀ i ∈ s, i ∈ l) → s.length ≤ l.length
  | [], l, _, _ => Nat.zero_le _
  | x :: s, l, hn, hs => by
    rw [List.nodup_cons] at hn
    have hx := hs x (by simp)
    have := nodup_le (s := s) (l := l.erase x) hn.2 (fun i hi => by
      have hne : i ≠ x := fun e => hn.1 (e ▸ hi)
      exact (List.mem_erase_of_ne hne).2 (hs i (by simp [hi])))
    rw [List.length_erase_of_mem hx] at this
    have hp := List.length_pos_of_mem hx
    rw [List.length_cons]
    omega
/-- What is taken greedily is no less. -/
theorem Fewest.le_gr {ts b l : List Nat} (hts : ∀ t ∈ ts, t < 4294967296) (h : Fewest ts b) (hg : Gr ts (orAll ts) l) : b.length ≤ l.length := by
  have hnd := hg.nodup hts (orAll_lt hts) (fun i hi => hi)
  have hcov := hg.covers hts (orAll_lt hts)
  have hlt := hg.lt
  obtain ⟨s, hs⟩ : ∃ s, s = (List.range ts.length).filter fun i => decide (i ∈ l) := ⟨_, rfl⟩
  have hmem : ∀ i, i ∈ s ↔ i ∈ l := fun i => by
    rw [hs, List.mem_filter, List.mem_range, decide_eq_true_eq]
    exact ⟨fun h => h.2, fun h => ⟨hlt i h, h⟩⟩
  have hsp : s.Pairwise (· < ·) := by rw [hs]; exact List.pairwise_lt_range.filter _
  have hsn : s.Nodup := hsp.imp (fun h => by omega)
  have hle : s.length ≤ l.length := nodup_le hsn fun i hi => (hmem i).1 hi
  have := (h.least s hsp (fun i hi => hlt i ((hmem i).1 hi)) (fun i hi => by
    have := hcov i hi
    rw [orAt_bit, List.any_eq_true] at this ⊢
    obtain ⟨k, hk, hk'⟩ := this
    exact ⟨k, (hmem k).2 hk, hk'⟩)).1
  omega
end Go.Mine.Suite
