/- path.Check; an error's number. No conditions but start-up's handle. -/
import Derived.Test.YtppbaiilhaagdaaDoorPathFault
import Derived.Test.YtppbaiilhaagdaaDoorPathsFrom
import Derived.Test.YtppbaiilhaagdaaDoorErrIs
namespace Go.Proofs.YtppbaiilhaagdaaDoor
open Go.RowKit Go.Mine Go.Mine.Path Go.Mine.Flow Go.Deep

theorem eqself (c : Int) : (c == c) = true := by simp
theorem PE.zero {n : Int} {es : List (Int × Int)} {c : Int} (h : PE n es c) (hn : pathOk n es) : c = 0 := by
  rcases h with ⟨_, h⟩ | ⟨h, _⟩
  · exact h
  · exact absurd hn h
theorem PE.ne {n : Int} {es : List (Int × Int)} {c : Int} (h : PE n es c) (hn : ¬ pathOk n es) : (c == 0) = false := by
  rcases h with ⟨h, _⟩ | ⟨_, h1, h2⟩
  · exact absurd h hn
  · by_cases hs : ok n es
    · rw [h1 hs]; rfl
    · rw [h2 hs]
      rcases efault_bad hs with h | h <;> rw [h] <;> rfl
theorem PE.same {n : Int} {es : List (Int × Int)} {c d : Int} (h : PE n es c) (hn : ¬ pathOk n es) (h1 : ok n es → d = 3) (h2 : ¬ ok n es → d = efault n es) : d = c := by
  rcases h with ⟨h, _⟩ | ⟨_, k1, k2⟩
  · exact absurd h hn
  · by_cases hs : ok n es
    · rw [k1 hs, h1 hs]
    · rw [k2 hs, h2 hs]
set_option maxHeartbeats 1000000 in
theorem pathCheck_any (n : Int) (es : List (Int × Int)) (c : Int) (lo : Option Addr) (lc : Nat) (W : World) (hx : PairsAt W lo es) (hl : es.length ≤ maxLen) (hc : lo ≠ none → es.length ≤ lc) (hp : PE n es c) :
    Calls Tryd.prog 7 #[.int .i64 n, .slice lo es.length lc] W fun e w' => (∃ x, e = .returned x ∧ Num x c) ∧ Below W.heap.size W w' := by
  have HK := Lib.hid (checked_any n es lo lc W hx hl hc)
  have HP := Lib.hid hp
  clear hx hp
  go_enter Tryd.func7, Tryd.ntmps7
  go_wp2_with fail
  refine HK.out.mono ?_
  clear HK
  rintro e w1 ⟨hb, ⟨hok, gs, rfl, _⟩ | ⟨hno, d, rfl, h1, h2⟩⟩
  · have HB := Lib.hid hb
    have HC := Lib.hid (HP.out.zero hok)
    clear hok hb
    go_wp2_with fail
    go_ret
    exact ⟨⟨_, rfl, by rw [HC.out]; exact Num.nil⟩, HB.out⟩
  · have HB := Lib.hid hb
    have HC := Lib.hid (HP.out.same hno h1 h2)
    clear hno hb h1 h2
    go_wp2_with fail
    go_ret
    exact ⟨⟨_, rfl, by rw [← HC.out]; exact Num.err _⟩, HB.out⟩
end Go.Proofs.YtppbaiilhaagdaaDoor
