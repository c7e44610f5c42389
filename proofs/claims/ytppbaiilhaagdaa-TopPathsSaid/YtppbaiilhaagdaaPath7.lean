/- pathed: the fact. No conditions. -/
import Derived.Test.YtppbaiilhaagdaaPath6
import Derived.Test.YtppbaiilhaagdaaSInts
namespace Go.Proofs.Ytppbaiilhaagdaa
open Go.RowKit Go.Mine Go.Mine.Path Go.Mine.Flow Go.Deep

theorem acy_lt {es : List (Nat × Nat)} (h : ∀ e ∈ es, e.1 < e.2) : Acy es := fun a b he hr => by
  have hle : ∀ {x y}, Rch es x y → x ≤ y := fun {x y} hr => by
    induction hr with
    | refl => exact Nat.le_refl _
    | step _ he ih => have := h _ he; simp only at this; omega
  have h1 := h _ he
  have h2 := hle hr
  simp only at h1
  omega
def factE : List (Int × Int) := [(0, 1), (1, 2), (0, 2)]
theorem fact_ok : pathOk 3 factE := ⟨⟨by decide, by decide, by decide, by decide⟩, by decide, acy_lt (by decide)⟩
theorem fact_np : np (natE factE) 3 0 = 2 := by decide +kernel
set_option maxHeartbeats 1000000 in
theorem pathed_any (W : World) : Calls Try.prog 9 #[] W fun e w' => e = .returned (.bool true) ∧ Below W.heap.size W w' := by
  obtain ⟨w1, hw1⟩ : ∃ w1, w1 = W.alloc (.cells #[.int .i64 0, .int .i64 1, .int .i64 1, .int .i64 2, .int .i64 0, .int .i64 2] 32) := ⟨_, rfl⟩
  have hb1 : Below W.heap.size W w1 := by rw [hw1]; exact (Below.refl _ _).alloc (Nat.le_refl _) _
  have hn1 : w1.heap[W.heap.size]? = some (.cells #[.int .i64 0, .int .i64 1, .int .i64 1, .int .i64 2, .int .i64 0, .int .i64 2] 32 (0, 0)) := by rw [hw1]; exact heap_alloc_new _ _
  have hp : PairsAt w1 (some ⟨W.heap.size, 0, none⟩) factE := by
    intro j hj
    refine ⟨_, 0, rfl, ?_⟩
    have h : j = 0 ∨ j = 1 ∨ j = 2 := by simp [factE] at hj; omega
    rcases h with rfl | rfl | rfl
    · exact ⟨by rw [cell_of_row _ _ _ _ _ _ hn1]; rfl, by rw [cell_of_row _ _ _ _ _ _ hn1]; rfl⟩
    · exact ⟨by rw [cell_of_row _ _ _ _ _ _ hn1]; rfl, by rw [cell_of_row _ _ _ _ _ _ hn1]; rfl⟩
    · exact ⟨by rw [cell_of_row _ _ _ _ _ _ hn1]; rfl, by rw [cell_of_row _ _ _ _ _ _ hn1]; rfl⟩
  have HC := Lib.hid (pcount_any 3 factE (some ⟨W.heap.size, 0, none⟩) 3 w1 hp (by decide) (fun _ => by decide))
  rw [show factE.length = 3 from rfl] at HC
  have HB1 := Lib.hid hb1
  have hw1' := hw1.symm
  clear hb1 hn1 hp hw1
  go_enter Try.func9, Try.ntmps9
  go_wp2_with fail
  clear hw1'
  refine HC.out.mono ?_
  clear HC
  rintro e w2 ⟨hb, ⟨_, rfl⟩ | ⟨hno, _⟩⟩
  rotate_left
  · exact absurd fact_ok hno
  rw [show ((3 : Int)).toNat = 3 from rfl, fact_np]
  have HB2 := Lib.hid (HB1.out.trans (hb.mono HB1.out.size))
  clear hb
  go_wp2_with fail
  go_ret
  exact ⟨rfl, HB2.out⟩
end Go.Proofs.Ytppbaiilhaagdaa
