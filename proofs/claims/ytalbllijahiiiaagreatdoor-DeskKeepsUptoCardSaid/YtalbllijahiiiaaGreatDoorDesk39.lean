/- strings.Split at one byte; desk.choices. -/
import Derived.Test.YtalbllijahiiiaaGreatDoorDesk38
import Derived.Lib.SplitLaws
namespace Go.Proofs.YtalbllijahiiiaaGreatDoor
open Go.RowKit Go.Mine Go.Mine.Desk

theorem splitK_cuts (c : UInt8) : ∀ (f : Nat) (s : Bytes), s.length < f → Go.Lib.splitK [c] 0 (Go.Lib.count s [c]) s = cuts c s ∧ Go.Lib.count s [c] + 1 = (cuts c s).length
  | 0, s, h => by omega
  | f + 1, s, h => by
    have hge := Go.Lib.indexByte_ge s c
    obtain ⟨ix, hix⟩ : ∃ ix, ix = Go.Lib.indexByte s c := ⟨_, rfl⟩
    rw [← hix] at hge
    rcases (show ix < 0 ∨ 0 ≤ ix by omega) with h0 | h0
    · obtain rfl : ix = -1 := by omega
      rw [Go.Lib.count_miss (by rw [Go.Lib.index_one]; exact hix.symm), cuts_last hix.symm]
      exact ⟨rfl, rfl⟩
    · obtain ⟨k, rfl⟩ := Int.eq_ofNat_of_zero_le h0
      obtain ⟨hk, hc⟩ := cuts_next hix.symm
      have hi : Go.Lib.index s [c] = (k : Int) := by rw [Go.Lib.index_one]; exact hix.symm
      obtain ⟨i1, i2⟩ := splitK_cuts c f (s.drop (k + 1)) (by rw [List.length_drop]; omega)
      rw [Go.Lib.count_hit (by simp) hi, hc]
      rw [show ([c] : Bytes).length = 1 from rfl]
      refine ⟨?_, by rw [List.length_cons]; omega⟩
      rw [Nat.add_comm 1, Go.Lib.splitK, hi, if_neg (by simp), ← i1]
      simp
theorem cutText_any (s : Bytes) (c : UInt8) (hs : s.length ≤ 4000000000) (w : World) (hg : Gl w) : Calls Tryz.prog 9 #[str s, str [c]] w fun e w' =>
    e = .returned (.slice (some ⟨w.heap.size, 0, none⟩) (cuts c s).length (cuts c s).length) ∧ w' = w.alloc (.cells ((cuts c s).map str).toArray 9) := by
  obtain ⟨m, hm⟩ := hg.maxLen
  have h := Tryz.strings_Split ⟨s.toArray⟩ ⟨[c].toArray⟩ m w (by simp [ByteArray.size]; omega) hm (by simp [ByteArray.size])
  obtain ⟨h1, h2⟩ := splitK_cuts c (s.length + 1) s (by omega)
  have hcb : Go.Lib.countB ⟨s.toArray⟩ ⟨[c].toArray⟩ = Go.Lib.count s [c] := by
    unfold Go.Lib.countB
    simp
  have hsp : (Go.Lib.splitB ⟨[c].toArray⟩ 0 (Go.Lib.count s [c]) ⟨s.toArray⟩).map Value.string = (cuts c s).map str := by
    have h3 := Go.Lib.splitB_data ⟨[c].toArray⟩ 0 (Go.Lib.count s [c]) ⟨s.toArray⟩
    simp only at h3
    rw [h1] at h3
    rw [← h3, List.map_map]
    refine List.map_congr_left fun x _ => ?_
    simp
  rw [hcb, h2, hsp] at h
  exact h
/-- The slice's places hold these texts. -/
def StrsAt (w : World) (ao : Option Addr) (l : List Bytes) : Prop := ∀ j, j < l.length → ∃ b o, ao = some ⟨b, o, none⟩ ∧ w.cell? ⟨b, o + j, none⟩ = some (str (l.getD j []))
theorem StrsAt.on {w w' : World} {ao : Option Addr} {l : List Bytes} (h : StrsAt w ao l) (hb : Below w.heap.size w w') : StrsAt w' ao l := fun j hj => by
  obtain ⟨b, o, h1, h2⟩ := h j hj
  exact ⟨b, o, h1, (hb.cell (by exact World.block_lt_of_cell? w _ h2)).trans h2⟩
/-- A tape, or the panic of a line that is none. -/
def ChoPost (s : Bytes) (w : World) (e : Ending) (w' : World) : Prop :=
  Below w.heap.size w w' ∧ ((∃ l uo uc, tapeV s = some l ∧ e = .returned (.slice uo l.length uc) ∧ IntsAt .i64 w' uo l ∧ l.length ≤ s.length + 1) ∨ (tapeV s = none ∧ e = panics 7))
theorem choices_any (s : Bytes) (hs : s.length ≤ 1100000) (w : World) (hg : Gl w) : Calls Tryz.prog 59 #[str s] w (ChoPost s w) := by
  have HC := Lib.hid (parse_any s hs w hg)
  have hne3 := neq_errno 3
  have hnn := neq_nil
  clear hg
  go_enter Tryz.func59, Tryz.ntmps59
  go_wp2_with fail
  refine HC.out.mono ?_
  clear HC
  rintro e w1 ⟨hb1, ⟨l, uo, uc, hv, rfl, hat, hl⟩ | ⟨hv, rfl⟩⟩
  · have H1 := Lib.hid (And.intro hb1 (And.intro hv (And.intro hat hl)))
    clear hb1 hv hat hl
    go_wp2_with fail
    go_ret
    exact ⟨H1.out.1, .inl ⟨l, uo, uc, H1.out.2.1, rfl, H1.out.2.2.1, H1.out.2.2.2⟩⟩
  · have H1 := Lib.hid (And.intro hb1 hv)
    clear hb1 hv
    go_wp2_with fail
    exact body_panics ⟨H1.out.1, .inr ⟨H1.out.2, rfl⟩⟩
end Go.Proofs.YtalbllijahiiiaaGreatDoor
