/- suite.Least. CONDITION: math/bits.deBruijn64tab holds what start-up lays there. -/
import Derived.Test.YtoneaocjooefiaaDoorSuite6
namespace Go.Proofs.YtoneaocjooefiaaDoor
open Go.RowKit Go.Mine Go.Mine.Suite

/-- What Least tells. -/
def LeastPost (n : Int) (ts : List Nat) (B : Nat) (e : Ending) (w' : World) : Prop :=
  (¬ sok n ts ∧ e = .returned (.tuple #[.slice none 0 0, .iface 39 (.int .i64 (sfault n ts))])) ∨
  (sok n ts ∧ ∃ v b, e = .returned (.tuple #[v, .nilIface]) ∧ Fewest ts b ∧ OwnIs w' B v (cast b))

set_option maxHeartbeats 2000000 in
set_option maxRecDepth 100000 in
theorem least_any (n : Int) (ts : List Nat) (ao : Option Addr) (c : Nat) (W : World) (hx : IntsAt .u32 W ao (cast ts)) (h32 : ∀ t ∈ ts, t < 4294967296) (hl : ts.length ≤ maxLen) (hT : Tab W) :
    Calls Tryd.prog 9 #[.int .i64 n, .slice ao ts.length c] W fun e w' => LeastPost n ts W.heap.size e w' ∧ Below W.heap.size W w' := by
  obtain ⟨w0, hw0⟩ : ∃ w0, w0 = W.alloc (.cells #[.slice ao ts.length c] 22) := ⟨_, rfl⟩
  have hb0 : Below W.heap.size W w0 := by rw [hw0]; exact (Below.refl _ _).alloc (Nat.le_refl _) _
  have ht0 : w0.cell? ⟨W.heap.size, 0, none⟩ = some (.slice ao ts.length c) := by rw [hw0]; simp [go_sem]
  have HS0 := Lib.hid (show w0.heap.size = W.heap.size + 1 by rw [hw0]; simp)
  have hx0 := hx.below (Nat.le_refl _) hb0
  have hT0 := hT.on hb0
  have HC := Lib.hid (scheck_any n ts ao c w0 hx0 h32 hl)
  have HX := Lib.hid (show ∀ w, Below W.heap.size W w → IntsAt .u32 w ao (cast ts) from fun w hb => hx.below (Nat.le_refl _) hb)
  have H32 := Lib.hid h32
  have HW0 := Lib.hid hw0
  have HB0 := Lib.hid hb0
  by_cases hok : sok n ts
  · have HOK := Lib.hid hok
    have hl12 := hok.2.2.1
    have HP := Lib.hid (show ∀ q, Calls Tryd.prog 21 #[.slice ao ts.length c, .int .u64 (IntKind.u64.wrap (IntKind.u64.wrap (2 ^ ts.length) - 1))] (w0.drewN q) (fun e w' => e = .returned (.int .u32 (orAll ts)) ∧ w' = w0.drewN q) from fun q => by
      rw [shl_pow ts.length (by omega)]
      exact (passed_all ts ao c (w0.drewN q) (hx0.drewN q) h32 hl12 (hT0.drewN q)).mono fun e w' h => ⟨h.1, h.2.symm⟩)
    have hall := orAll_lt h32
    have HLK := Lib.hid (show ∀ w, LOwn W ts ao c none (.slice none 0 0) w → _ from fun w hw => look_any W ts ao c HX.out h32 hl12 ts.length 0 (orAll ts) [] none (.slice none 0 0) (.slice none 0 0) w (by omega) (by omega) hall (by simp; omega) hw (World.ownsRow_nil _ _ _ _) (fun g hg => by cases hg))
    obtain ⟨b, hb, hfew⟩ := fewest_of h32
    have HFEW := Lib.hid hfew
    have HBB := Lib.hid hb
    have HOA := Lib.hid hall
    obtain ⟨all, hal⟩ : ∃ all, all = orAll ts := ⟨_, rfl⟩
    rw [← hal] at HP HLK HBB HOA
    have HLO := Lib.hid (show ∀ q, LOwn W ts ao c none (.slice none 0 0) (((w0.drewN q).alloc (.cells #[.slice none 0 0] 24)).alloc (.cells #[.func (.func 23) #[] #[.pointer (some ⟨W.heap.size + 1, 0, none⟩), .pointer (some ⟨W.heap.size, 0, none⟩), .pointer (some ⟨W.heap.size + 1 + 1, 0, none⟩)]] 46)) from fun q => by
      refine ⟨?_, ?_, ?_, ?_, ?_, ?_, rfl⟩
      · rw [hw0]; simp [go_sem]
      · rw [hw0]; simp [go_sem]
      · rw [hw0]; simp [go_sem]
      · rw [hw0]; simp [go_sem]
      · rw [hw0]; simp
      · exact ((below_drewN hb0 q).alloc (by rw [hw0]; simp) _).alloc (by rw [hw0]; simp; omega) _)
    clear hx hx0 h32 hT hT0 hok hb0 hw0 hb hfew hall hal hl
    go_enter Tryd.func9, Tryd.ntmps9
    go_wp2_with fail
    rw [← HW0.out]
    refine HC.out.mono ?_
    rintro e w' ⟨hp, rfl⟩
    rcases hp with ⟨_, rfl⟩ | ⟨hno, _⟩
    · clear HC
      go_wp2_with fail
      go_quiet ((go_at_call 21; exact Calls.quiet_of_same (HP.out _)))
      go_wp2_with fail
      rw [HS0.out]
      refine (HLK.out _ (HLO.out _)).mono ?_
      clear HLK HLO HP
      rintro e w5 ⟨rfl, bv', hL, _, _, _⟩
      rw [HBB.out] at hL
      obtain ⟨g, cap, rfl, how⟩ := hL.is
      have c1 := hL.bestc
      have HBL := Lib.hid hL.below
      have HOW := Lib.hid (owns_mono how (show W.heap.size ≤ W.heap.size + 3 by omega))
      have hcl := cast_len b
      have HOI := Lib.hid (show OwnIs w5 W.heap.size (.slice (some ⟨g, 0, none⟩) b.length cap) (cast b) from ⟨_, rfl, by rw [hcl]; exact HOW.out⟩)
      clear hL how ht0 hcl
      go_wp2_with fail
      go_ret2
      exact ⟨.inr ⟨HOK.out, _, b, rfl, HFEW.out, HOI.out⟩, HBL.out⟩
    · exact absurd HOK.out hno
  · have HNO := Lib.hid hok
    clear hok hx hx0 h32 hT hT0 hb0 hw0
    go_enter Tryd.func9, Tryd.ntmps9
    go_wp2_with fail
    rw [← HW0.out]
    refine HC.out.mono ?_
    rintro e w' ⟨hp, rfl⟩
    rcases hp with ⟨h, _⟩ | ⟨_, rfl⟩
    · exact absurd h HNO.out
    · clear ht0
      go_wp2_with fail
      go_ret2
      exact ⟨.inl ⟨HNO.out, rfl⟩, HB0.out⟩
end Go.Proofs.YtoneaocjooefiaaDoor
