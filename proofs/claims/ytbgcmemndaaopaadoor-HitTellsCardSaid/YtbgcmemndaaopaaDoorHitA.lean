/- assayerlaw4.struck, assayerref2.HitsAll. No conditions beyond sizes. -/
import Derived.Test.YtbgcmemndaaopaaDoorHit3
import Derived.Test.YtbgcmemndaaopaaDoorSSets
namespace Go.Mine.Hit
def hitsB (l : List Nat) (s : Nat) : Bool := l.all fun t => t &&& s != 0
theorem hitsB_iff {l : List Nat} {s : Nat} : hitsB l s = true ↔ Hits l s := by
  unfold hitsB Hits
  rw [List.all_eq_true]
  constructor
  · intro h t ht; exact cut_iff.1 (bne_iff_ne.1 (h t ht))
  · intro h t ht; exact bne_iff_ne.2 (cut_iff.2 (h t ht))
theorem hitsB_false {l : List Nat} {s : Nat} : hitsB l s = false ↔ ¬ Hits l s := by
  rw [← hitsB_iff]; cases hitsB l s <;> simp
theorem least_in {l m : List Nat} (h1 : m.Pairwise (· < ·)) (h2 : ∀ s, s ∈ m ↔ s ∈ l ∧ ∀ t ∈ l, t &&& s = t → t = s) : Lst (· ∈ l) m :=
  ⟨h1, fun s => (h2 s).trans (and_congr_right' (forall_congr' fun _ => imp_congr_right fun _ => imp_congr_left sub_iff))⟩
theorem least_of {l m : List Nat} (h1 : m.Pairwise (· < ·)) (h2 : ∀ s ∈ m, s ∈ l ∧ ∀ t ∈ l, t &&& s = t → t = s) (h3 : ∀ s ∈ l, (∀ t ∈ l, t &&& s = t → t = s) → s ∈ m) : Lst (· ∈ l) m :=
  least_in h1 fun s => ⟨h2 s, fun h => h3 s h.1 h.2⟩
/-- What the law's own fact says: of {0, 1} and {1, 2} the least hits are {1}, and {0, 2}. -/
theorem lst_struck : Lst (U [3, 6]) [2, 5] := by
  have h1 : Lst (· ∈ next [0] 3) [1, 2] := least_of (by decide) (by decide) (by decide)
  have h2 : Lst (U [3]) [1, 2] := h1.congr (least_next (l := []) lst_none)
  have h3 : Lst (· ∈ next [1, 2] 6) [2, 5] := least_of (by decide) (by decide) (by decide)
  exact h3.congr (least_next h2)
theorem struck_is {m : List Nat} (h : Lst (U [3, 6]) m) : m = [2, 5] := h.unique lst_struck
/-- a lies in b: nothing of a is not in b. -/
theorem andn_zero {a b : Nat} (ha : a < 4294967296) (hb : b < 4294967296) : a &&& (4294967295 - b) = 0 ↔ Sub a b := by
  have h1 : ∀ i, (4294967295 - b).testBit i = (decide (i < 32) && !b.testBit i) := fun i => by
    rw [show 4294967295 - b = 2 ^ 32 - (b + 1) by omega, Nat.testBit_two_pow_sub_succ hb]
  rw [not_cut_iff]
  constructor
  · intro h i hi
    cases hbi : b.testBit i
    · refine absurd ⟨i, hi, ?_⟩ h
      have h32 : i < 32 := by
        rcases Nat.lt_or_ge i 32 with h2 | h2
        · exact h2
        · rw [Nat.testBit_lt_two_pow (Nat.lt_of_lt_of_le ha (Nat.pow_le_pow_right (n := 2) (by decide) h2))] at hi
          cases hi
      rw [h1, hbi, decide_eq_true h32]; rfl
    · rfl
  · rintro h ⟨i, h2, h3⟩
    rw [h1, h i h2] at h3
    simp at h3
/-- Of some sets the least are no more than they. -/
theorem nodup_le : ∀ {s l : List Nat}, s.Nodup → (∀ i ∈ s, i ∈ l) → s.length ≤ l.length
  | [], _, _, _ => Nat.zero_le _
  | x :: s, l, hn, hs => by
    rw [List.nodup_cons] at hn
    have hx := hs x List.mem_cons_self
    have h := nodup_le (s := s) (l := l.erase x) hn.2 (fun i hi => by
      rw [List.mem_erase_of_ne (fun e => hn.1 (by rw [← e]; exact hi))]
      exact hs i (List.mem_cons_of_mem _ hi))
    have := List.length_erase_of_mem hx
    have := List.length_pos_of_mem hx
    simp only [List.length_cons]
    omega
theorem Lst.le {l m : List Nat} (h : Lst (· ∈ l) m) : m.length ≤ l.length := nodup_le (h.1.imp fun h => Nat.ne_of_lt h) fun _ hi => h.so hi
theorem Lst.ok {l m : List Nat} (h : Lst (· ∈ l) m) (hok : ok l) : ok m := ⟨Nat.le_trans h.le hok.1, fun _ ht => hok.2 _ (h.so ht)⟩
end Go.Mine.Hit
namespace Go.Proofs.YtbgcmemndaaopaaDoor
open Go.RowKit Go.Mine Go.Mine.Hit

theorem cast_inj {a b : List Nat} : cast a = cast b ↔ a = b := by
  constructor
  · intro h
    unfold cast at h
    exact (List.map_inj_right (fun x y h => by omega)).1 h
  · rintro rfl; rfl
theorem sets_cast (a b : List Nat) (ao bo : Option Addr) (ca cb : Nat) (w : World) (hx : IntsAt .u32 w ao (cast a)) (hy : IntsAt .u32 w bo (cast b)) (hl : a.length ≤ maxLen) :
    Calls Tryd.prog 11 #[.slice ao a.length ca, .slice bo b.length cb] w fun e w' => e = .returned (.bool (decide (a = b))) ∧ ∃ n, w' = w.drewN n := by
  have h := Sets_any (cast a) (cast b) ao bo ca cb w hx hy (by rw [cast_len]; exact hl)
  rw [cast_len, cast_len] at h
  rwa [show decide (cast a = cast b) = decide (a = b) from decide_eq_decide.2 cast_inj] at h

theorem struck_any (W : World) : Calls Tryd.prog 4 #[] W fun e w' => e = .returned (.bool true) ∧ Below W.heap.size W w' := by
  obtain ⟨w1, hw1⟩ : ∃ w1, w1 = W.alloc (.cells #[.int .u32 3, .int .u32 6] 35) := ⟨_, rfl⟩
  have hb1 : Below W.heap.size W w1 := by rw [hw1]; exact (Below.refl _ _).alloc (Nat.le_refl _) _
  have ho1 : w1.ownsRow W.heap.size 35 1 (.slice (some ⟨W.heap.size, 0, none⟩) 2 2) 2 ((cast [3, 6]).map (Value.int .u32)) := by rw [hw1]; exact owns_laid (heap_alloc_new _ _) (Nat.le_refl _) (by simp) (by simp [maxLen])
  have HH := Lib.hid (hHits_any [3, 6] (some ⟨W.heap.size, 0, none⟩) 2 w1 (IntsAt.of_owns ho1) (by simp [maxLen]))
  have HB1 := Lib.hid hb1
  rw [hw1] at HH
  have HW1 := Lib.hid hw1
  clear hb1 ho1 hw1
  go_enter Tryd.func4, Tryd.ntmps4
  go_wp2_with fail
  refine HH.out.mono ?_
  clear HH
  rintro e w2 ⟨⟨_, v, m, rfl, hm, ho⟩ | ⟨h, _⟩, hb⟩
  rotate_left
  · exact absurd ⟨by decide, by decide⟩ h
  have hm := struck_is hm
  subst hm
  obtain ⟨a2, c2, rfl⟩ := owns_shape ho
  obtain ⟨w3, hw3⟩ : ∃ w3, w3 = w2.alloc (.cells #[.int .u32 2, .int .u32 5] 35) := ⟨_, rfl⟩
  have hb2 : Below W.heap.size W w2 := HB1.out.trans (by rw [HW1.out]; exact hb.mono (by simp))
  have hb3 : Below W.heap.size W w3 := by rw [hw3]; exact hb2.alloc hb2.size _
  have ho3 : w3.ownsRow W.heap.size 35 1 (.slice (some ⟨w2.heap.size, 0, none⟩) 2 2) 2 ((cast [2, 5]).map (Value.int .u32)) := by rw [hw3]; exact owns_laid (heap_alloc_new _ _) hb2.size (by simp) (by simp [maxLen])
  have HS := Lib.hid (sets_cast [2, 5] [2, 5] a2 (some ⟨w2.heap.size, 0, none⟩) c2 2 w3 ((IntsAt.of_owns ho).below (Nat.le_refl _) (by rw [hw3]; exact (Below.refl _ _).alloc (Nat.le_refl _) _)) (IntsAt.of_owns ho3) (by simp [maxLen]))
  have HB3 := Lib.hid hb3
  rw [hw3] at HS
  have HW3 := Lib.hid hw3
  clear hb hb2 hb3 ho ho3 hw3 HW1 HB1
  go_wp2_with fail
  refine HS.out.mono ?_
  clear HS
  rintro e w4 ⟨rfl, n, rfl⟩
  go_wp2_with fail
  go_ret
  exact ⟨by simp, by rw [← HW3.out]; exact below_drewN HB3.out n⟩

set_option maxHeartbeats 600000 in
theorem hitsAll_any (ts : List Nat) (s : Nat) (ao : Option Addr) (c : Nat) (W : World) (hx : IntsAt .u32 W ao (cast ts)) (h32 : ∀ t ∈ ts, t < 4294967296) (hs : s < 4294967296) (hl : ts.length ≤ maxLen) :
    Calls Tryd.prog 14 #[.slice ao ts.length c, .int .u32 s] W fun e w' => e = .returned (.bool (hitsB ts s)) ∧ W = w' := by
  unfold maxLen at hl
  have HX := Lib.hid hx
  have H32 := Lib.hid h32
  clear hx h32
  go_enter Tryd.func14, Tryd.ntmps14
  go_wp2_with fail
  go_loop [5] (fun kv => ∃ k : Nat, kv = .int .i64 k ∧ k ≤ ts.length ∧ RowKit.Hid (∀ j, j < k → ts.getD j 0 &&& s ≠ 0)) (fun kv => ts.length - (intOf kv).toNat)
  case atStart => exact ⟨0, rfl, by omega, Lib.hid (fun j hj => by omega)⟩
  case round =>
    obtain ⟨k, rfl, hk, hall⟩ := hrel
    by_cases hlt : k < ts.length
    · obtain ⟨b, o, rfl, hc⟩ := HX.out k (by rw [cast_len]; exact hlt)
      rw [cast_get] at hc
      have hmem : ts.getD k 0 ∈ ts := by simp [hlt]
      obtain ⟨t, ht⟩ : ∃ t, t = ts.getD k 0 := ⟨_, rfl⟩
      rw [← ht] at hc hmem
      have hand := u32_and_nat t s (H32.out t hmem) hs
      obtain ⟨q, hq⟩ : ∃ q, q = t &&& s := ⟨_, rfl⟩
      rw [← hq] at hand
      have HT := Lib.hid ht
      have HM := Lib.hid hmem
      have HQ := Lib.hid hq
      clear ht hmem hq
      by_cases hq0 : q = 0
      · subst hq0
        have HE := Lib.hid (show hitsB ts s = false by
          unfold hitsB
          rw [List.all_eq_false]
          exact ⟨t, HM.out, by rw [← HQ.out]; decide⟩)
        clear hall
        go_wp2_with fail
        go_ret
        exact ⟨by rw [HE.out]; rfl, rfl⟩
      · have b1 : ((q : Int) == 0) = false := by rw [beq_eq_false_iff_ne]; omega
        have HN := Lib.hid (show ∀ j, j < k + 1 → ts.getD j 0 &&& s ≠ 0 from fun j hj => by
          by_cases e : j = k
          · subst e; rw [← HT.out, ← HQ.out]; exact hq0
          · exact hall.out j (by omega))
        clear hall
        go_wp2_with fail
        go_round
        case rel => exact ⟨k + 1, by go_num, by omega, HN⟩
        case measure => simp [intOf]; omega
    · obtain rfl : k = ts.length := by omega
      have HE := Lib.hid (show hitsB ts s = true by
        unfold hitsB
        rw [List.all_eq_true]
        intro t ht
        obtain ⟨j, hj, rfl⟩ := List.mem_iff_getElem.1 ht
        have := hall.out j hj
        rw [bne_iff_ne]
        simpa [hj] using this)
      clear hall
      go_wp2_with fail
      go_ret
      exact ⟨by rw [HE.out]; rfl, rfl⟩
end Go.Proofs.YtbgcmemndaaopaaDoor
