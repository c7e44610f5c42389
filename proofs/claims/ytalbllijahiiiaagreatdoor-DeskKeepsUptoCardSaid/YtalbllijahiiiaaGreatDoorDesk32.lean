/- rank.Nth, plainly. -/
import Derived.Test.YtalbllijahiiiaaGreatDoorDesk2
namespace Go.Proofs.YtalbllijahiiiaaGreatDoor
open Go.RowKit Go.Mine Go.Mine.Desk

/-- The first piece that so many fall into, and how many are ahead in it. -/
def findK (m : Nat → Int) : Nat → Nat → Int → Nat × Int
  | 0, k, i => (k, i)
  | f + 1, k, i => if i < m k then (k, i) else findK m f (k + 1) (i - m k)
def tot (m : Nat → Int) : Nat → Int
  | 0 => 0
  | n + 1 => tot m n + m n
def brN : G → Nat
  | .int a b => (b - a + 1).toNat
  | .many n _ _ => (n + 1).toNat
def brF : G → Nat → Nat
  | .int _ _, _ => 0
  | .many _ _ _, k => k
def wide : G → Int
  | .int a b => b - a + 1
  | .many _ a b => b - a + 1
def mW (g : G) (j k : Nat) : Int := wide g ^ j * wide g ^ brF g k
def digsN (c : Int) : Nat → Int → List Int
  | 0, _ => []
  | j + 1, i => i / c ^ j :: digsN c j (i % c ^ j)
/-- What Nth tells of what is still to be done. -/
def nthS (g : G) (j : Nat) (i : Int) : List Int :=
  ((findK (mW g j) (brN g) 0 i).1 : Int) :: digsN (wide g) (brF g (findK (mW g j) (brN g) 0 i).1 + j) (findK (mW g j) (brN g) 0 i).2
def nth (g : G) (i : Int) : List Int := nthS g 0 i

theorem brN_int (a b : Int) : brN (.int a b) = (b - a + 1).toNat := rfl
theorem brN_many (n a b : Int) : brN (.many n a b) = (n + 1).toNat := rfl
theorem findK_skip {m : Nat → Int} {n k : Nat} {i : Int} (hk : k < n) (h : ¬ i < m k) : findK m (n - k) k i = findK m (n - (k + 1)) (k + 1) (i - m k) := by
  obtain ⟨f, hf⟩ : ∃ f, n - k = f + 1 := ⟨n - k - 1, by omega⟩
  rw [hf, findK, if_neg h, show n - (k + 1) = f by omega]
theorem findK_hit {m : Nat → Int} {n k : Nat} {i : Int} (hk : k < n) (h : i < m k) : findK m (n - k) k i = (k, i) := by
  obtain ⟨f, hf⟩ : ∃ f, n - k = f + 1 := ⟨n - k - 1, by omega⟩
  rw [hf, findK, if_pos h]
theorem tot_const (p : Int) : ∀ n, tot (fun _ => p) n = n * p
  | 0 => by simp [tot]
  | n + 1 => by
    rw [tot, tot_const p n, Int.natCast_add, Int.add_mul]
    simp
theorem tot_nn {m : Nat → Int} (h : ∀ k, 0 ≤ m k) : ∀ n, 0 ≤ tot m n
  | 0 => Int.le_refl _
  | n + 1 => by
    have := tot_nn h n
    have := h n
    rw [tot]
    omega
theorem mW_int (a b : Int) (j : Nat) : mW (.int a b) j = fun _ => (b - a + 1) ^ j := by
  funext k
  simp [mW, wide, brF]
theorem mW_many (n a b : Int) : mW (.many n a b) 0 = fun k => (b - a + 1) ^ k := by
  funext k
  simp [mW, wide, brF]
theorem findK_const {p : Int} (hp : 0 < p) : ∀ (f k : Nat) (i : Int), 0 ≤ i → i < f * p → findK (fun _ => p) f k i = (k + (i / p).toNat, i % p)
  | 0, k, i, h0, h1 => by simp at h1; omega
  | f + 1, k, i, h0, h1 => by
    rw [findK]
    split
    · rename_i h
      rw [Int.ediv_eq_zero_of_lt h0 h, Int.emod_eq_of_lt h0 h]
      simp
    · rename_i h
      have h2 : i - p < f * p := by
        rw [Int.natCast_add, Int.add_mul] at h1
        simp at h1
        omega
      rw [findK_const hp f (k + 1) (i - p) (by omega) h2]
      have h3 : i / p = (i - p) / p + 1 := by
        have : i = (i - p) + p * 1 := by omega
        rw [this, Int.add_mul_ediv_left _ _ (by omega)]
        simp
      have h4 : (i - p) % p = i % p := by
        have := Int.sub_emod_right i p
        exact this
      have h5 : 0 ≤ (i - p) / p := Int.ediv_nonneg (by omega) (by omega)
      rw [h4, h3]
      refine Prod.ext ?_ rfl
      show k + 1 + ((i - p) / p).toNat = k + ((i - p) / p + 1).toNat
      omega
theorem nthS_int {a b : Int} (hab : a ≤ b) (j : Nat) (i : Int) (h0 : 0 ≤ i) (h1 : i < (b - a + 1) ^ (j + 1)) : nthS (.int a b) j i = digsN (b - a + 1) (j + 1) i := by
  obtain ⟨c, hc⟩ : ∃ c, c = b - a + 1 := ⟨_, rfl⟩
  have hc0 : 0 < c := by omega
  have hp : 0 < c ^ j := Int.pow_pos hc0
  have hn : ((brN (.int a b) : Nat) : Int) = c := by rw [brN_int]; omega
  have hk := findK_const hp (brN (.int a b)) 0 i h0 (by rw [hn, Int.mul_comm, ← Int.pow_succ, hc]; exact h1)
  unfold nthS
  rw [mW_int, ← hc, hk]
  show ((0 + (i / c ^ j).toNat : Nat) : Int) :: digsN (wide (.int a b)) (0 + j) (i % c ^ j) = digsN c (j + 1) i
  have hd : 0 ≤ i / c ^ j := Int.ediv_nonneg h0 (by omega)
  rw [digsN, Nat.zero_add, show wide (.int a b) = c from hc.symm, show (((i / c ^ j).toNat : Nat) : Int) = i / c ^ j by omega, Nat.zero_add]
theorem tot_int {a b : Int} (hab : a ≤ b) (j : Nat) : tot (mW (.int a b) j) (brN (.int a b)) = (b - a + 1) ^ (j + 1) := by
  rw [mW_int, tot_const, Int.pow_succ, Int.mul_comm]
  have : ((brN (.int a b) : Nat) : Int) = b - a + 1 := by rw [brN_int]; omega
  rw [this]
theorem cntN_tot {c : Int} (h0 : 0 ≤ c) : ∀ k, (cntN c k).1 ≤ 1048576 → (cntN c k).1 = tot (fun q => c ^ q) (k + 1) ∧ (cntN c k).2 = c ^ k
  | 0, _ => by simp [cntN, tot]
  | k + 1, h => by
    obtain ⟨b1, _, b3, _⟩ := cntN_b h0 k
    have hm : 0 ≤ (cntN c k).2 * c := Int.mul_nonneg b3 h0
    have e1 : (cntN c (k + 1)).1 = capped ((cntN c k).1 + capped ((cntN c k).2 * c)) := rfl
    have e2 : (cntN c (k + 1)).2 = capped ((cntN c k).2 * c) := rfl
    have hc := capped_nn hm
    rw [e1] at h
    have h1 : (cntN c k).1 + capped ((cntN c k).2 * c) ≤ 1048576 := by unfold capped at h ⊢; omega
    obtain ⟨i1, i2⟩ := cntN_tot h0 k (by omega)
    have h2 : capped ((cntN c k).2 * c) = (cntN c k).2 * c := by unfold capped at h1 ⊢; omega
    rw [e1, e2]
    rw [h2] at h1 ⊢
    rw [show capped ((cntN c k).1 + (cntN c k).2 * c) = (cntN c k).1 + (cntN c k).2 * c by unfold capped; omega, i1, i2, tot, ← Int.pow_succ]
    exact ⟨rfl, rfl⟩
theorem tot_cnt {g : G} (h : g.right) (hc : cnt g ≤ 1048576) : tot (mW g 0) (brN g) = cnt g := by
  cases g with
  | int a b =>
    obtain ⟨_, _, h1, _⟩ := h
    rw [tot_int h1, cnt_int, Int.pow_succ]
    simp
  | many n a b =>
    obtain ⟨h0, h5, _, _, h1, _⟩ := h
    rw [cnt_many] at hc
    have := (cntN_tot (c := b - a + 1) (by omega) n.toNat hc).1
    rw [mW_many, cnt_many, this]
    have : brN (.many n a b) = n.toNat + 1 := by rw [brN_many]; omega
    rw [this]
/-- Where a search stands. -/
structure FK (m : Nat → Int) (n k : Nat) (i i0 : Int) : Prop where
  nn : 0 ≤ i
  same : findK m (n - k) k i = findK m n 0 i0
  sum : tot m k + i = i0
  le : i ≤ i0
theorem FK.start {m : Nat → Int} {n : Nat} {i : Int} (h : 0 ≤ i) : FK m n 0 i i := ⟨h, by simp, by simp [tot], Int.le_refl _⟩
theorem FK.next {m : Nat → Int} {n k : Nat} {i i0 : Int} (h : FK m n k i i0) (hk : k < n) (hn : ¬ i < m k) (h0 : 0 ≤ m k) : FK m n (k + 1) (i - m k) i0 :=
  ⟨by omega, by rw [← findK_skip hk hn]; exact h.same, by have := h.sum; rw [tot]; omega, by have := h.le; omega⟩
theorem FK.hit {m : Nat → Int} {n k : Nat} {i i0 : Int} (h : FK m n k i i0) (hk : k < n) (hn : i < m k) : findK m n 0 i0 = (k, i) := by rw [← h.same]; exact findK_hit hk hn
theorem FK.more {m : Nat → Int} {n k : Nat} {i i0 : Int} (h : FK m n k i i0) (ht : i0 < tot m n) (hk : k ≤ n) : k < n := by
  rcases Nat.lt_or_ge k n with h1 | h1
  · exact h1
  · obtain rfl : k = n := by omega
    have := h.nn
    have := h.sum
    omega
end Go.Proofs.YtalbllijahiiiaaGreatDoor
