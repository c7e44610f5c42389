/- cond.covers, Covers. No conditions. -/
import Derived.Test.YtpmfpegjkfnnkaaCond2
namespace Go.Proofs.Ytpmfpegjkfnnkaa
open Go.RowKit Go.Mine Go.Mine.Cond

theorem entersD (args : Array Value) (w : World) : Sem.run Try.prog (callFunc 25 args) w = .ok (.enter 25 args) w := by kernel_rfl
theorem entersW (args : Array Value) (w : World) : Sem.run Try.prog (callFunc 28 args) w = .ok (.enter 28 args) w := by kernel_rfl

/-- covers$1 as ContainsFunc asks for it. -/
theorem duo_gives (fs : List Bool) (xs : List Int) (n i : Nat) (pf pb pt : Addr) (fo to : Option Addr) (fc tc : Nat) (w : World) (h1 : w.cell? pf = some (.slice fo fs.length fc)) (h2 : w.cell? pb = some (.int .i64 ((2 ^ i : Nat) : Int))) (h3 : w.cell? pt = some (.slice to xs.length tc))
    (hf : BoolsAt w fo fs) (hx : IntsAt .i64 w to xs) (hl : fs.length = 2 ^ n) (hn : n ≤ 6) (hi : i < n) (hr : ∀ x ∈ xs, 0 ≤ x ∧ x < fs.length) (hxl : xs.length ≤ maxLen) :
    Gives 25 #[.pointer (some pf), .pointer (some pb), .pointer (some pt)] w (duo fs xs i) xs := fun x hxx q =>
  (duo_any fs xs n i x pf pb pt fo to fc tc (w.drewN q) h1 h2 h3 (hf.drewN q) (hx.drewN q) hl hn hi (hr x hxx) hxl).mono fun _ _ ⟨he, _, hm⟩ => ⟨he, _, hm.trans (drewN_drewN _ _ _)⟩
/-- covers$2 as ContainsFunc asks for it. -/
theorem want_gives (fs : List Bool) (xs : List Int) (v : Bool) (pf pw : Addr) (fo : Option Addr) (fc : Nat) (w : World) (h1 : w.cell? pf = some (.slice fo fs.length fc)) (h2 : w.cell? pw = some (.bool v))
    (hf : BoolsAt w fo fs) (hfl : fs.length ≤ 64) (hr : ∀ x ∈ xs, 0 ≤ x ∧ x < fs.length) :
    Gives 28 #[.pointer (some pf), .pointer (some pw)] w (fun x => at' fs x.toNat == v) xs := fun x hxx q =>
  (want_any fs v x pf pw fo fc (w.drewN q) h1 h2 (hf.drewN q) hfl (hr x hxx)).mono fun _ _ ⟨he, _, hm⟩ => ⟨he, _, hm.trans (drewN_drewN _ _ _)⟩

set_option maxHeartbeats 2000000 in
set_option maxRecDepth 100000 in
theorem covers_any (n : Nat) (hn1 : 1 ≤ n) (hn : n ≤ 6) (fs : List Bool) (xs : List Int) (fo to : Option Addr) (fc tc : Nat) (W : World) (hf : BoolsAt W fo fs) (hx : IntsAt .i64 W to xs) (hl : fs.length = 2 ^ n) (hr : ∀ x ∈ xs, 0 ≤ x ∧ x < fs.length) (hxl : xs.length ≤ maxLen) :
    Calls Try.prog 19 #[.int .i64 n, .slice fo fs.length fc, .slice to xs.length tc] W fun e w' => (∃ b, e = .returned (.bool b) ∧ (b = true ↔ Cov n fs xs)) ∧ Below W.heap.size W w' := by
  obtain ⟨w1, hw1⟩ : ∃ w1, w1 = (W.alloc (.cells #[.slice fo fs.length fc] 32)).alloc (.cells #[.slice to xs.length tc] 23) := ⟨_, rfl⟩
  have hb1 : Below W.heap.size W w1 := by rw [hw1]; exact ((Below.refl _ _).alloc (Nat.le_refl _) _).alloc (by simp) _
  have hs1 : w1.heap.size = W.heap.size + 1 + 1 := by rw [hw1]; simp
  have c1 : w1.cell? ⟨W.heap.size, 0, none⟩ = some (.slice fo fs.length fc) := by rw [hw1]; simp [go_sem]
  have c2 : w1.cell? ⟨W.heap.size + 1, 0, none⟩ = some (.slice to xs.length tc) := by rw [hw1]; simp [go_sem]
  have hall : ∀ wr, Below (W.heap.size + 1 + 1) w1 wr → wr.cell? ⟨W.heap.size, 0, none⟩ = some (.slice fo fs.length fc) ∧ wr.cell? ⟨W.heap.size + 1, 0, none⟩ = some (.slice to xs.length tc) ∧ BoolsAt wr fo fs ∧ IntsAt .i64 wr to xs ∧ Below W.heap.size W wr := by
    intro wr hb
    exact ⟨(hb.cell (p := ⟨W.heap.size, 0, none⟩) (by show W.heap.size < _; omega)).trans c1, (hb.cell (p := ⟨W.heap.size + 1, 0, none⟩) (by show W.heap.size + 1 < _; omega)).trans c2,
      (hf.below (Nat.le_refl _) hb1).below (Nat.le_of_eq hs1) hb, (hx.below (Nat.le_refl _) hb1).below (Nat.le_of_eq hs1) hb, hb1.trans (hb.mono (by omega))⟩
  have HALL := Lib.hid hall
  have HL := Lib.hid hl
  have HR := Lib.hid hr
  have hok : cok n fs.length := ⟨n, rfl, hn1, hn, hl⟩
  have HOK := Lib.hid hok
  have HXL := Lib.hid hxl
  have hfl : fs.length ≤ 64 := by have := pow_le hn; omega
  have hb0 : Below (W.heap.size + 1 + 1) w1 w1 := Below.refl _ _
  rw [hw1] at hb0
  have HB0 := Lib.hid hb0
  clear hf hx hb1 hs1 c1 c2 hall hl hr hok hb0
  go_enter Try.func19, Try.ntmps19
  go_wp2_with fail
  go_loopw [14] (fun iv wr => ∃ i : Nat, iv = .int .i64 i ∧ i ≤ n ∧ RowKit.Hid (∀ k, k < i → Mat fs k → xs.any (duo fs xs k) = true) ∧ Below (W.heap.size + 1 + 1) w1 wr) (fun iv _ => n - (intOf iv).toNat)
  case atStart => exact ⟨0, rfl, by omega, Lib.hid (fun k hk => by omega), by rw [hw1]; exact HB0.out⟩
  case round =>
    obtain ⟨i, rfl, hi, hdone, hb⟩ := hrel
    have HB := Lib.hid hb
    clear hb hw1
    by_cases hin : i < n
    · have hp := pow_wrap i (by omega)
      obtain ⟨B, hB⟩ : ∃ B, B = 2 ^ i := ⟨_, rfl⟩
      rw [← hB] at hp
      have HBB := Lib.hid hB
      clear hB
      obtain ⟨f1, f2, f3, f4, f5⟩ := HALL.out wr HB.out
      have hsz := HB.out.size
      have hs1 := HB.out.size
      have l1 := World.block_lt_of_cell? wr _ f1
      have l2 := World.block_lt_of_cell? wr _ f2
      have hba : Below wr.heap.size wr (wr.alloc (.cells #[.int .i64 B] 3)) := (Below.refl _ _).alloc (Nat.le_refl _) _
      have HBA := Lib.hid hba
      have HM := Lib.hid (matters_any n i fs fo fc _ (f3.below (Nat.le_refl _) hba))
      have g1 : (wr.alloc (.cells #[.int .i64 B] 3)).cell? ⟨W.heap.size, 0, none⟩ = some (.slice fo fs.length fc) := (hba.cell l1).trans f1
      have g2 : (wr.alloc (.cells #[.int .i64 B] 3)).cell? ⟨W.heap.size + 1, 0, none⟩ = some (.slice to xs.length tc) := (hba.cell l2).trans f2
      have g3 : (wr.alloc (.cells #[.int .i64 B] 3)).cell? ⟨wr.heap.size, 0, none⟩ = some (.int .i64 B) := by simp [go_sem]
      have hg := fun q => ctnFunc_any xs to tc (World.drewN _ q) ((f4.below (Nat.le_refl _) hba).drewN q) HXL.out 25 _ (duo fs xs i) (fun v w => entersD _ w)
        (duo_gives fs xs n i ⟨W.heap.size, 0, none⟩ ⟨wr.heap.size, 0, none⟩ ⟨W.heap.size + 1, 0, none⟩ fo to fc tc (World.drewN _ q) g1 (by rw [← HBB.out]; exact g3) g2 ((f3.below (Nat.le_refl _) hba).drewN q) ((f4.below (Nat.le_refl _) hba).drewN q) HL.out hn hin HR.out HXL.out)
      have HG := Lib.hid hg
      have HF4 := Lib.hid f4
      have HB2 := Lib.hid (HB.out.alloc (show W.heap.size + 1 + 1 ≤ wr.heap.size by have : W.heap.size + 1 < wr.heap.size := l2; omega) (.cells #[.int .i64 B] 3))
      have HB3 := Lib.hid (f5.alloc (show W.heap.size ≤ wr.heap.size by have : W.heap.size + 1 < wr.heap.size := l2; omega) (.cells #[.int .i64 B] 3))
      clear f3 f4 f5 hba hg
      go_wp2_with fail
      refine HM.out.mono ?_
      rintro e w2 ⟨hm, q, rfl⟩
      rcases hm with ⟨h, _⟩ | ⟨_, h, _⟩ | ⟨_, _, hno, rfl⟩ | ⟨_, _, hyes, rfl⟩
      · exact absurd HOK.out h
      · exact absurd ⟨by omega, by omega⟩ h
      · rw [Int.toNat_natCast] at hno
        have HN := Lib.hid (show ∀ k, k < i + 1 → Mat fs k → xs.any (duo fs xs k) = true from fun k hk hm => by
          by_cases e : k = i
          · subst e; exact absurd hm hno
          · exact hdone.out k (by omega) hm)
        clear hno hdone
        go_wp2_with fail
        go_roundw
        case rel => exact ⟨i + 1, by go_num, by omega, HN, below_drewN HB2.out _⟩
        case measure => simp [intOf]; omega
      · rw [Int.toNat_natCast] at hyes
        have HY := Lib.hid hyes
        have HBN := Lib.hid (below_drewN HB3.out q)
        clear hyes
        go_wp2_with fail
        refine (HG.out q).mono ?_
        clear HG
        rintro e w3 ⟨rfl, m, rfl⟩
        cases hany : xs.any (duo fs xs i) with
        | true =>
          have HN := Lib.hid (show ∀ k, k < i + 1 → Mat fs k → xs.any (duo fs xs k) = true from fun k hk hm => by
            by_cases e : k = i
            · subst e; exact hany
            · exact hdone.out k (by omega) hm)
          clear hdone hany
          go_wp2_with fail
          go_roundw
          case rel => exact ⟨i + 1, by go_num, by omega, HN, below_drewN HB2.out _⟩
          case measure => simp [intOf]; omega
        | false =>
          have HNO := Lib.hid (show ¬ Cov n fs xs from fun h => by have := h.1 i hin HY.out; rw [hany] at this; cases this)
          clear hdone hany
          go_wp2_with fail
          go_ret
          exact ⟨⟨false, rfl, ⟨fun h => (by cases h), fun h => absurd h HNO.out⟩⟩, below_drewN HB3.out _⟩
    · have hie : i = n := by omega
      subst hie
      obtain ⟨wo, hwo⟩ : ∃ wo : World, wo = wr := ⟨_, rfl⟩
      rw [← hwo] at HB ⊢
      clear hwo wr
      obtain ⟨f1, f2, f3, f4, f5⟩ := HALL.out wo HB.out
      have l1 := World.block_lt_of_cell? wo _ f1
      have l2 : W.heap.size + 1 < wo.heap.size := World.block_lt_of_cell? wo _ f2
      obtain ⟨w3, hw3⟩ : ∃ w3, w3 = wo.alloc (.cells #[.bool false, .bool true] 4) := ⟨_, rfl⟩
      have hb3 : Below wo.heap.size wo w3 := by rw [hw3]; exact (Below.refl _ _).alloc (Nat.le_refl _) _
      have hs3 : w3.heap.size = wo.heap.size + 1 := by rw [hw3]; simp
      have d0 : w3.cell? ⟨wo.heap.size, 0, none⟩ = some (.bool false) := by rw [hw3]; simp [go_sem]
      have d1 : w3.cell? ⟨wo.heap.size, 1, none⟩ = some (.bool true) := by rw [hw3]; simp [go_sem]
      have hfacts : ∀ w, Below (wo.heap.size + 1) w3 w → w.cell? ⟨W.heap.size, 0, none⟩ = some (.slice fo fs.length fc) ∧ w.cell? ⟨W.heap.size + 1, 0, none⟩ = some (.slice to xs.length tc) ∧ BoolsAt w fo fs ∧ IntsAt .i64 w to xs ∧ Below W.heap.size W w ∧ w.cell? ⟨wo.heap.size, 0, none⟩ = some (.bool false) ∧ w.cell? ⟨wo.heap.size, 1, none⟩ = some (.bool true) ∧ wo.heap.size < w.heap.size := by
        intro w hb
        have hbo : Below wo.heap.size wo w := hb3.trans (hb.mono (by omega))
        refine ⟨(hbo.cell l1).trans f1, (hbo.cell (p := ⟨W.heap.size + 1, 0, none⟩) l2).trans f2, f3.below (Nat.le_refl _) hbo, f4.below (Nat.le_refl _) hbo, f5.trans (hbo.mono (by omega)), (hb.cell (p := ⟨wo.heap.size, 0, none⟩) (Nat.lt_succ_self _)).trans d0, (hb.cell (p := ⟨wo.heap.size, 1, none⟩) (Nat.lt_succ_self _)).trans d1, ?_⟩
        have := hb.size
        omega
      have HFACTS := Lib.hid hfacts
      have hb33 : Below (wo.heap.size + 1) w3 w3 := Below.refl _ _
      rw [hw3] at hb33
      have HB33 := Lib.hid hb33
      clear f1 f2 f3 f4 f5 hb3 hs3 d0 d1 hfacts hb33
      go_wp2_with fail
      go_loopw [35] (fun kv wq => ∃ k : Nat, kv = .int .i64 k ∧ k ≤ 2 ∧ RowKit.Hid (∀ b : Bool, (if b then 1 else 0) < k → false ∈ fs → true ∈ fs → xs.any (fun x => at' fs x.toNat == b) = true) ∧ Below (wo.heap.size + 1) w3 wq) (fun kv _ => 2 - (intOf kv).toNat)
      case atStart => exact ⟨0, rfl, by omega, Lib.hid (fun b hb => by omega), by rw [hw3]; exact HB33.out⟩
      case round =>
        obtain ⟨k, rfl, hk, hd2, hb⟩ := hrel
        clear hw3
        obtain ⟨f1, f2, f3, f4, f5, d0, d1, hs⟩ := HFACTS.out wr hb
        have HF5 := Lib.hid f5
        by_cases hk2 : k < 2
        · obtain ⟨v, hv, hvk⟩ : ∃ v : Bool, wr.cell? ⟨wo.heap.size, k, none⟩ = some (.bool v) ∧ ((if v then 1 else 0) = k) := by
            rcases (show k = 0 ∨ k = 1 by omega) with rfl | rfl
            · exact ⟨false, d0, rfl⟩
            · exact ⟨true, d1, rfl⟩
          have HVK := Lib.hid hvk
          have hnext : (false ∈ fs → true ∈ fs → xs.any (fun x => at' fs x.toNat == v) = true) → ∀ b : Bool, (if b then 1 else 0) < k + 1 → false ∈ fs → true ∈ fs → xs.any (fun x => at' fs x.toNat == b) = true := by
            intro h b hb' hf ht
            by_cases e : b = v
            · subst e; exact h hf ht
            · refine hd2.out b ?_ hf ht
              cases b <;> cases v
              · exact absurd rfl e
              · simp at hvk ⊢; omega
              · simp at hb' hvk ⊢; omega
              · exact absurd rfl e
          have HNX := Lib.hid hnext
          have hba : Below wr.heap.size wr (wr.alloc (.cells #[.bool v] 4)) := (Below.refl _ _).alloc (Nat.le_refl _) _
          have l1 := World.block_lt_of_cell? wr _ f1
          have l2 := World.block_lt_of_cell? wr _ f2
          have g1 : (wr.alloc (.cells #[.bool v] 4)).cell? ⟨W.heap.size, 0, none⟩ = some (.slice fo fs.length fc) := (hba.cell l1).trans f1
          have g2 : (wr.alloc (.cells #[.bool v] 4)).cell? ⟨W.heap.size + 1, 0, none⟩ = some (.slice to xs.length tc) := (hba.cell l2).trans f2
          have g3 : (wr.alloc (.cells #[.bool v] 4)).cell? ⟨wr.heap.size, 0, none⟩ = some (.bool v) := by simp [go_sem]
          have hfl2 : fs.length ≤ maxLen := by unfold maxLen; omega
          have HC1 := Lib.hid (fun b => containsB_any fs b fo fc _ (f3.below (Nat.le_refl _) hba) hfl2)
          have HG := Lib.hid (ctnFunc_any xs to tc _ (f4.below (Nat.le_refl _) hba) HXL.out 28 _ (fun x => at' fs x.toNat == v) (fun v w => entersW _ w)
            (want_gives fs xs v ⟨W.heap.size, 0, none⟩ ⟨wr.heap.size, 0, none⟩ fo fc _ g1 g3 (f3.below (Nat.le_refl _) hba) hfl HR.out))
          have HB2 := Lib.hid (hb.alloc (show wo.heap.size + 1 ≤ wr.heap.size by omega) (.cells #[.bool v] 4))
          have HB3 := Lib.hid (f5.alloc (show W.heap.size ≤ wr.heap.size by have : W.heap.size < wr.heap.size := l1; omega) (.cells #[.bool v] 4))
          clear f3 f4 f5 hba hb hd2 hnext hvk d0 d1 hfl2
          go_wp2_with fail
          refine (HC1.out v).mono ?_
          rintro e w4 ⟨rfl, rfl⟩
          by_cases m1 : v ∈ fs
          · rw [decide_eq_true m1]
            have M1 := Lib.hid m1
            clear m1
            go_wp2_with fail
            refine (HC1.out (!v)).mono ?_
            rintro e w4 ⟨rfl, rfl⟩
            by_cases m2 : (!v) ∈ fs
            · rw [decide_eq_true m2]
              have M2 := Lib.hid m2
              clear m2
              go_wp2_with fail
              refine HG.out.mono ?_
              rintro e w4 ⟨rfl, m, rfl⟩
              cases hany : xs.any (fun x => at' fs x.toNat == v) with
              | true =>
                have HN := Lib.hid (HNX.out (fun _ _ => hany))
                clear hany
                go_wp2_with fail
                go_roundw
                case rel => exact ⟨k + 1, by go_num, by omega, HN, below_drewN HB2.out _⟩
                case measure => simp [intOf]; omega
              | false =>
                have HNO := Lib.hid (show ¬ Cov i fs xs from fun h => by
                  have h1 : false ∈ fs := by cases v <;> first | exact M1.out | exact M2.out
                  have h2 : true ∈ fs := by cases v <;> first | exact M1.out | exact M2.out
                  have := h.2 h1 h2 v
                  rw [hany] at this; cases this)
                clear hany
                go_wp2_with fail
                go_ret
                exact ⟨⟨false, rfl, ⟨fun h => (by cases h), fun h => absurd h HNO.out⟩⟩, below_drewN HB3.out _⟩
            · rw [decide_eq_false m2]
              have HN := Lib.hid (HNX.out (fun h1 h2 => absurd (by cases v <;> assumption) m2))
              clear m2
              go_wp2_with fail
              go_roundw
              case rel => exact ⟨k + 1, by go_num, by omega, HN, HB2.out⟩
              case measure => simp [intOf]; omega
          · rw [decide_eq_false m1]
            have HN := Lib.hid (HNX.out (fun h1 h2 => absurd (by cases v <;> assumption) m1))
            clear m1
            go_wp2_with fail
            go_roundw
            case rel => exact ⟨k + 1, by go_num, by omega, HN, HB2.out⟩
            case measure => simp [intOf]; omega
        · have HYES := Lib.hid (show Cov i fs xs from ⟨fun j hj hm => hdone.out j hj hm, fun h1 h2 b => hd2.out b (by cases b <;> simp <;> omega) h1 h2⟩)
          clear hdone hd2 f1 f2 f3 f4 f5 d0 d1 hb
          go_wp2_with fail
          go_ret
          exact ⟨⟨true, rfl, ⟨fun _ => HYES.out, fun _ => rfl⟩⟩, HF5.out⟩
end Go.Proofs.Ytpmfpegjkfnnkaa
