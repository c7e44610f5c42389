import Derived.Test.YtobhclmibmpffaaDoorA
import Derived.Deep.OwnRows
namespace Go.Proofs.YtobhclmibmpffaaDoor
open Go.RowKit Go.Mine Go.Mine.Flow Go.Deep

theorem info4 : (Tryd.prog.info? 4).map (fun i => (i.zero, i.size, i.bytes)) = some (some (.bool false), 1, 1) := by kernel_rfl

theorem made_list (n : Nat) : (madeCells #[Value.bool false] n).toList = (List.replicate n false).map Value.bool := by
  rw [toList_madeCells_one]; simp
set_option maxHeartbeats 400000 in
theorem met_any (es : List (Int × Int)) (lo : Option Addr) (lc : Nat) (but : Int) (n : Nat) (W : World) (hx : PairsAt W lo es) (hes : ∀ e ∈ es, 0 ≤ e.1 ∧ e.1 < n ∧ 0 ≤ e.2 ∧ e.2 < n) (hn : n ≤ 12) (hn1 : 1 ≤ n) (hel : es.length ≤ 1000000) :
    Calls Tryd.prog 16 #[.int .i64 n, .slice lo es.length lc, .int .i64 but] W fun e w' => ∃ g ys, e = .returned (.slice (some ⟨g, 0, none⟩) n n) ∧ w'.ownsRow W.heap.size 4 1 (.slice (some ⟨g, 0, none⟩) n n) n (ys.map Value.bool) ∧ ys.length = n ∧ (∀ v, M ys v ↔ R (nat es) but v) ∧ Below W.heap.size W w' := by
  have hmk := run_make_row' (P := Tryd.prog) 31 4 (.bool false) 1 Tryd.underlying31 info4 rfl .i64 .i64 n (by omega) (by omega)
  go_enter Tryd.func16, Tryd.ntmps16
  go_wp2_with fail
  have hm : (madeCells #[Value.bool false] n).toList = (List.replicate n false).map Value.bool := made_list n
  have hown : ∀ w : World, W.heap.size + 1 + 1 = w.heap.size → (w.alloc (.cells (madeCells #[Value.bool false] n) 4)).ownsRow (W.heap.size + 1 + 1) 4 1 (.slice (some ⟨W.heap.size + 1 + 1, 0, none⟩) n n) n ((List.replicate n false).map Value.bool) := fun w hw => by
    have := World.ownsRow_lit (base := W.heap.size + 1 + 1) (e := 4) (size := 1) w (madeCells #[Value.bool false] n) n (by omega) (by unfold maxLen; omega) (by rw [← Array.length_toList, hm]; simp)
    rw [hm, ← hw] at this
    exact this
  have hb : Below W.heap.size W (((((W.alloc (.cells #[.slice lo es.length lc] 22)).alloc (.cells #[.int .i64 but] 3)).alloc (.cells (madeCells #[Value.bool false] n) 4)).alloc
          (.cells #[.slice (some ⟨W.heap.size + 1 + 1, 0, none⟩) n n] 31)).alloc (.cells #[.func (.func 22) #[] #[.pointer (some ⟨W.heap.size + 1, 0, none⟩), .pointer (some ⟨W.heap.size + 1 + 1 + 1, 0, none⟩), .pointer (some ⟨W.heap.size, 0, none⟩), .pointer (some ⟨W.heap.size + 1 + 1 + 1 + 1, 0, none⟩)]] 55)) :=
    (((((Below.refl _ _).alloc (Nat.le_refl _) _).alloc (by simp) _).alloc (by simp; omega) _).alloc (by simp; omega) _).alloc (by simp; omega) _
  have hv := visit_any es lo lc but W.heap.size n hes hn hel n 0 (List.replicate n false) (fun _ => False) _ (by omega) (by simp) (by unfold unmarked; exact Nat.le_trans List.countP_le_length (by simp))
    ⟨by simp [go_sem], by simp [go_sem], by simp [go_sem], ((hown _ (by simp)).alloc _).alloc _, by simp [go_sem], hx.below (Nat.le_refl _) hb, hx.far, by simp⟩
  rw [show ((0 : Nat) : Int) = 0 from rfl] at hv
  refine hv.mono ?_
  clear hv hown hm hmk
  rintro e w2 ⟨rfl, ys, hvis, hov, hg⟩
  have hout := hov.out
  have HV := Lib.hid hvis.all
  have HL := Lib.hid (hvis.len.trans (List.length_replicate ..))
  clear hvis
  go_wp2_with fail
  go_ret
  exact ⟨_, ys, rfl, owns_mono hov.row (by omega), HL.out, HV.out, hb.grown hg (by simp; omega) (fun k hk => by simp at hk; omega)⟩
end Go.Proofs.YtobhclmibmpffaaDoor
