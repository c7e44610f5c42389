/- None too many: lists of numbers, no program. -/
namespace Go.Mine.Dd

/-- What is left without the piece from i on. -/
def cut (l : List Int) (i s : Nat) : List Int := l.take i ++ l.drop (min (i + s) l.length)
theorem cut_len (l : List Int) (i s : Nat) (hi : i < l.length) (hs : 0 < s) : (cut l i s).length < l.length := by
  unfold cut; simp; omega
theorem cut_sub (l : List Int) (i s : Nat) : (cut l i s).Sublist l := by
  unfold cut
  have h : (l.take i ++ l.drop (min (i + s) l.length)).Sublist (l.take i ++ l.drop i) := by
    refine List.Sublist.append (List.Sublist.refl _) ?_
    rcases Nat.lt_or_ge i l.length with h | h
    · exact List.drop_sublist_drop_left l (by omega)
    · rw [List.drop_of_length_le (by omega : l.length ≤ i), List.drop_of_length_le (by omega)]
      exact List.Sublist.refl _
  rwa [List.take_append_drop] at h
theorem cut_one (l : List Int) (i : Nat) (hi : i < l.length) : cut l i 1 = l.eraseIdx i := by
  unfold cut
  rw [List.eraseIdx_eq_take_drop_succ, Nat.min_eq_left (by omega)]

/-- What Min tells, where F is what fails. -/
structure Least (F : List Int → Bool) (l m : List Int) : Prop where
  fails : F m = true
  some_of : m.Sublist l
  none_too_many : ∀ i, i < m.length → F (m.eraseIdx i) = false

/-- Where just some numbers must be there. -/
def allIn (need l : List Int) : Bool := need.all fun x => decide (x ∈ l)
theorem allIn_iff (need l : List Int) : allIn need l = true ↔ ∀ x ∈ need, x ∈ l := by simp [allIn]

theorem least_need {need l m : List Int} (h : Least (allIn need) l m) (hd : l.Nodup) : ∀ x, x ∈ m ↔ (x ∈ l ∧ x ∈ need) := by
  intro x
  constructor
  · intro hx
    refine ⟨h.some_of.subset hx, ?_⟩
    obtain ⟨i, hi, rfl⟩ := List.mem_iff_getElem.1 hx
    have hn := h.none_too_many i hi
    have hmd : m.Nodup := h.some_of.nodup hd
    apply Classical.byContradiction
    intro hne
    have : allIn need (m.eraseIdx i) = true := by
      rw [allIn_iff]
      intro y hy
      have hym := (allIn_iff need m).1 h.fails y hy
      obtain ⟨j, hj, rfl⟩ := List.mem_iff_getElem.1 hym
      have hij : j ≠ i := fun e => by subst e; exact hne hy
      rw [List.mem_eraseIdx_iff_getElem]
      exact ⟨j, hj, hij, rfl⟩
    rw [this] at hn
    cases hn
  · rintro ⟨_, hx⟩
    exact (allIn_iff need m).1 h.fails x hx
theorem least_count {need l m : List Int} (h : Least (allIn need) l m) (hd : l.Nodup) : m.length = (l.filter fun x => decide (x ∈ need)).length := by
  have hmd : m.Nodup := h.some_of.nodup hd
  have hfd : (l.filter fun x => decide (x ∈ need)).Nodup := hd.filter _
  have hp : m.Perm (l.filter fun x => decide (x ∈ need)) := by
    rw [List.perm_ext_iff_of_nodup hmd hfd]
    intro x
    rw [least_need h hd x, List.mem_filter]
    simp
  exact hp.length_eq
end Go.Mine.Dd
