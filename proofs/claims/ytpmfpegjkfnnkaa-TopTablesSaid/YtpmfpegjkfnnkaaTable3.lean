/- table.Which. No conditions. -/
import Derived.Test.YtpmfpegjkfnnkaaTable2
namespace Go.Proofs.Ytpmfpegjkfnnkaa
open Go.RowKit Go.Mine Go.Mine.Table

theorem pow_wrap : ∀ k, k ≤ 6 → wrap64 (2 ^ k) = ((2 ^ k : Nat) : Int) := by
  intro k hk
  rcases (show k = 0 ∨ k = 1 ∨ k = 2 ∨ k = 3 ∨ k = 4 ∨ k = 5 ∨ k = 6 by omega) with rfl | rfl | rfl | rfl | rfl | rfl | rfl <;> decide +kernel
theorem pow_le {k : Nat} (hk : k ≤ 6) : 2 ^ k ≤ 64 := by
  have := Nat.pow_le_pow_right (show 0 < 2 by omega) hk
  omega
theorem RulesAt.drewN {w : World} {ao : Option Addr} {rs : List Rl} (h : RulesAt w ao rs) (n : Nat) : RulesAt (w.drewN n) ao rs := h
/-- What a right rule's numbers are, and where. -/
theorem rule_at {w : World} {ao : Option Addr} {rs : List Rl} {m : Nat} (hx : RulesAt w ao rs) (hall : ∀ j, j < (rs.map Rl.when).length → rf m ((rs.map Rl.when).getD j []) = 0) {r : Rl} (hr : r ∈ rs) : r.when.length = m ∧ (∀ z ∈ r.when, -1 ≤ z ∧ z ≤ 1) ∧ IntsAt .i64 w r.sa r.when := by
  obtain ⟨j, hj, rfl⟩ := List.mem_iff_getElem.1 hr
  obtain ⟨b, o, _, _, _, h4, _⟩ := hx j hj
  have h := hall j (by simpa using hj)
  rw [when_get hj] at h
  have e : rs.getD j default = rs[j] := by simp [hj]
  rw [e] at h h4
  exact ⟨(rf_zero h).1, (rf_zero h).2, h4⟩

theorem which_fits (r : Rl) (t : Nat) (ht : t < 64) (hl6 : r.when.length ≤ 6) (pt : Addr) (w : World) (h1 : w.cell? pt = some (.int .i64 t)) (hx : IntsAt .i64 w r.sa r.when) :
    Calls Try.prog 13 #[rv r, .pointer (some pt)] w fun e w' => e = .returned (.bool (fits r.when t)) ∧ Below w.heap.size w w' := by
  have hba : Below w.heap.size w (w.alloc (.cells #[.slice r.sa r.when.length r.cap, .int .i64 r.to] 31)) := (Below.refl _ _).alloc (Nat.le_refl _) _
  have H := Lib.hid (fits_any r t ht hl6 _ (hx.below (Nat.le_refl _) hba))
  have h2 : (w.alloc (.cells #[.slice r.sa r.when.length r.cap, .int .i64 r.to] 31)).cell? pt = some (.int .i64 t) := (hba.cell (World.block_lt_of_cell? w _ h1)).trans h1
  have HBA := Lib.hid hba
  unfold rv
  clear hx hba
  go_enter Try.func13, Try.ntmps13
  go_wp2_with fail
  refine H.out.mono ?_
  rintro e w' ⟨rfl, hb⟩
  have HB := Lib.hid (HBA.out.trans (hb.mono HBA.out.size))
  clear hb h2
  go_wp2_with fail
  go_ret
  exact ⟨rfl, HB.out⟩
theorem enters1 (args : Array Value) (w : World) : Sem.run Try.prog (callFunc 13 args) w = .ok (.enter 13 args) w := by kernel_rfl

/-- What Which tells. -/
def WhichPost (n : Int) (rs : List Rl) (t : Int) (e : Ending) : Prop :=
  (¬ tok n (rs.map Rl.when) ∧ e = .returned (.tuple #[.int .i64 0, .iface 42 (.int .i64 (tfault n (rs.map Rl.when)))])) ∨
  (tok n (rs.map Rl.when) ∧ ¬ (0 ≤ t ∧ t < ((2 ^ n.toNat : Nat) : Int)) ∧ e = .returned (.tuple #[.int .i64 0, .iface 42 (.int .i64 1)])) ∨
  (tok n (rs.map Rl.when) ∧ (0 ≤ t ∧ t < ((2 ^ n.toNat : Nat) : Int)) ∧ (∀ r ∈ rs, fits r.when t.toNat = false) ∧ e = .returned (.tuple #[.int .i64 0, .iface 42 (.int .i64 2)])) ∨
  (tok n (rs.map Rl.when) ∧ (0 ≤ t ∧ t < ((2 ^ n.toNat : Nat) : Int)) ∧ ∃ k : Nat, k < rs.length ∧ fits (rs.getD k default).when t.toNat = true ∧ (∀ j, j < k → fits (rs.getD j default).when t.toNat = false) ∧ e = .returned (.tuple #[.int .i64 (rs.getD k default).to, .nilIface]))

set_option maxHeartbeats 1000000 in
theorem which_any (n t : Int) (rs : List Rl) (lo : Option Addr) (lc : Nat) (W : World) (hx : RulesAt W lo rs) (hl : rs.length ≤ maxLen) :
    Calls Try.prog 5 #[.int .i64 n, .slice lo rs.length lc, .int .i64 t] W fun e w' => WhichPost n rs t e ∧ Below W.heap.size W w' := by
  have hba : Below W.heap.size W (W.alloc (.cells #[.int .i64 t] 3)) := (Below.refl _ _).alloc (Nat.le_refl _) _
  have hx1 := hx.below (Nat.le_refl _) hba
  have HC := Lib.hid (tcheck_any n rs lo lc _ hx1 hl)
  have HX1 := Lib.hid hx1
  have HBA := Lib.hid hba
  have hg3 : (W.alloc (.cells #[.int .i64 t] 3)).cell? ⟨W.heap.size, 0, none⟩ = some (.int .i64 t) := by simp [go_sem]
  have HG3 := Lib.hid hg3
  clear hx hx1 hba hg3
  go_enter Try.func5, Try.ntmps5
  go_wp2_with fail
  refine HC.out.mono ?_
  clear HC
  rintro e w2 ⟨hp, hb2⟩
  have HB2 := Lib.hid (HBA.out.trans (hb2.mono HBA.out.size))
  have HX2 := Lib.hid (HX1.out.below (Nat.le_refl _) hb2)
  have hg2 : w2.cell? ⟨W.heap.size, 0, none⟩ = some (.int .i64 t) := (hb2.cell (p := ⟨W.heap.size, 0, none⟩) (World.block_lt_of_cell? _ _ HG3.out)).trans HG3.out
  clear hb2 HBA HX1 HG3
  rcases hp with ⟨hok, rfl⟩ | ⟨hno, rfl⟩
  · obtain ⟨m, rfl, hm1, hm6, hr12, hall⟩ := id hok
    have HOK := Lib.hid hok
    have hp := pow_wrap m hm6
    have hp64 := pow_le hm6
    have HPP := Lib.hid (show ∀ e, WhichPost m rs t e = WhichPost m rs t e from fun _ => rfl)
    obtain ⟨B, hB⟩ : ∃ B, B = 2 ^ m := ⟨_, rfl⟩
    rw [← hB] at hp hp64
    have HBB := Lib.hid (show ((2 ^ (m : Int).toNat : Nat) : Int) = (B : Int) by rw [Int.toNat_natCast, hB])
    clear hB hok
    by_cases ht0 : t < 0
    · have hd1 : decide (t < 0) = true := by rw [decide_eq_true_iff]; exact ht0
      go_wp2_with fail
      go_quiet (fail)
      go_wp2_with fail
      go_ret2
      exact ⟨.inr (.inl ⟨HOK.out, by omega, rfl⟩), below_drewN HB2.out _⟩
    · by_cases ht1 : (B : Int) ≤ t
      · have hd1 : decide (t < 0) = false := by rw [decide_eq_false_iff_not]; exact ht0
        have hd2 : decide ((B : Int) ≤ t) = true := by rw [decide_eq_true_iff]; exact ht1
        go_wp2_with fail
        go_quiet (fail)
        go_wp2_with fail
        go_ret2
        exact ⟨.inr (.inl ⟨HOK.out, by rw [HBB.out]; omega, rfl⟩), below_drewN HB2.out _⟩
      · obtain ⟨s, rfl⟩ := Int.eq_ofNat_of_zero_le (show 0 ≤ t by omega)
        have hs64 : s < 64 := by omega
        have HIN := Lib.hid (show 0 ≤ (s : Int) ∧ (s : Int) < ((2 ^ (m : Int).toNat : Nat) : Int) by rw [HBB.out]; omega)
        have hd1 : decide ((s : Int) < 0) = false := by rw [decide_eq_false_iff_not]; omega
        have hd2 : decide ((B : Int) ≤ (s : Int)) = false := by rw [decide_eq_false_iff_not]; exact ht1
        have HI := Lib.hid (fun nq => idxR_any rs lo lc (w2.drewN nq) (show RulesAt (w2.drewN nq) lo rs from HX2.out) hl 13 #[.pointer (some ⟨W.heap.size, 0, none⟩)] (fun r => fits r.when s) (fun v w => enters1 _ w)
          (fun r hr w hb => which_fits r s hs64 (by have := (rule_at HX2.out hall hr).1; omega) ⟨W.heap.size, 0, none⟩ w (((⟨hb.os, hb.tape, hb.output, hb.size, hb.block⟩ : Below w2.heap.size w2 w).cell (World.block_lt_of_cell? w2 _ hg2)).trans hg2) ((rule_at HX2.out hall hr).2.2.below (Nat.le_refl _) (⟨hb.os, hb.tape, hb.output, hb.size, hb.block⟩ : Below w2.heap.size w2 w))))
        go_wp2_with fail
        go_quiet (fail)
        go_wp2_with fail
        refine (HI.out _).mono ?_
        clear HI hg2
        rintro e w3 ⟨⟨z, rfl, hz⟩, hb3⟩
        have hb3' : Below w2.heap.size w2 w3 := ⟨hb3.os, hb3.tape, hb3.output, hb3.size, hb3.block⟩
        have HB3 := Lib.hid (HB2.out.trans (hb3'.mono HB2.out.size))
        have hx3 : RulesAt w3 lo rs := HX2.out.below (Nat.le_refl _) hb3'
        clear hb3 hb3'
        rcases hz with ⟨rfl, hnone⟩ | ⟨k, rfl, hk, hfit, hfst⟩
        · have HN := Lib.hid hnone
          clear hnone hx3
          go_wp2_with fail
          go_ret2
          exact ⟨.inr (.inr (.inl ⟨HOK.out, HIN.out, by rw [Int.toNat_natCast]; exact HN.out, rfl⟩)), HB3.out⟩
        · obtain ⟨b, o, rfl, c1, c2, _, _⟩ := hx3 k hk
          have HN := Lib.hid (And.intro hfit hfst)
          obtain ⟨d, hd⟩ : ∃ d, d = (rs.getD k default).to := ⟨_, rfl⟩
          rw [← hd] at c2
          have HD := Lib.hid hd
          clear hfit hfst hd c1
          go_wp2_with fail
          go_ret2
          exact ⟨.inr (.inr (.inr ⟨HOK.out, HIN.out, k, hk, by rw [Int.toNat_natCast]; exact HN.out.1, by rw [Int.toNat_natCast]; exact HN.out.2, by rw [← HD.out]; rfl⟩)), HB3.out⟩
  · have HNO := Lib.hid hno
    clear hno hg2
    go_wp2_with fail
    go_ret2
    exact ⟨.inl ⟨HNO.out, rfl⟩, HB2.out⟩
end Go.Proofs.Ytpmfpegjkfnnkaa
