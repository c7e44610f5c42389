/- What is walked: its edges; all that go more than come are none, together. -/
import Derived.Test.YtnbnfgljbhidbaaF
namespace Go.Proofs.Ytnbnfgljbhidbaa
open Go.RowKit Go.Mine Go.Mine.Tour Go.Deep

def pre (c : Int) : List Int → List (Int × Int)
  | [] => []
  | x :: t => (c, x) :: pre x t
def lastOf (c : Int) : List Int → Int
  | [] => c
  | x :: t => lastOf x t
def chain (c : Int) (w : List Int) : List (Int × Int) := pre c w ++ [(lastOf c w, 0)]
theorem pre_len : ∀ (c : Int) (w : List Int), (pre c w).length = w.length
  | _, [] => rfl
  | c, x :: t => by simp [pre, pre_len x t]
theorem pre_snoc (x : Int) : ∀ (c : Int) (l : List Int), pre c (l ++ [x]) = pre c l ++ [(lastOf c l, x)]
  | c, [] => rfl
  | c, y :: t => by simp [pre, lastOf, pre_snoc x y t]
theorem lastOf_snoc (x : Int) : ∀ (c : Int) (l : List Int), lastOf c (l ++ [x]) = x
  | c, [] => rfl
  | c, y :: t => by simp only [List.cons_append, lastOf]; exact lastOf_snoc x y t
theorem walk_chain : ∀ (c : Int) (w : List Int), Walk c (chain c w)
  | c, [] => by simp [chain, pre, lastOf, Walk]
  | c, x :: t => by
    have := walk_chain x t
    unfold chain at this ⊢
    simp only [pre, lastOf, List.cons_append, Walk, true_and]
    exact this
theorem chain_fst : ∀ (c : Int) (w : List Int), (chain c w).map (·.1) = c :: w
  | c, [] => rfl
  | c, x :: t => by
    have := chain_fst x t
    unfold chain at this ⊢
    simp only [pre, lastOf, List.cons_append, List.map_cons]
    rw [this]
theorem chain_snd : ∀ (c : Int) (w : List Int), (chain c w).map (·.2) = w ++ [0]
  | c, [] => rfl
  | c, x :: t => by
    have := chain_snd x t
    unfold chain at this ⊢
    simp only [pre, lastOf, List.cons_append, List.map_cons]
    rw [this]
theorem bal_chain (n : Nat) (w : List Int) : Bal n (chain 0 w) := by
  intro v _ _
  have h1 : (chain 0 w).countP (fun e => decide (e.1 = v)) = ((chain 0 w).map (·.1)).countP (fun x => decide (x = v)) := by rw [List.countP_map]; rfl
  have h2 : (chain 0 w).countP (fun e => decide (e.2 = v)) = ((chain 0 w).map (·.2)).countP (fun x => decide (x = v)) := by rw [List.countP_map]; rfl
  rw [h1, h2, chain_fst, chain_snd, List.countP_append, List.countP_cons, List.countP_singleton]

theorem sum3 (f g h : Nat → Int) : ∀ l : List Nat, (l.map fun v => f v + g v - h v).sum = (l.map f).sum + (l.map g).sum - (l.map h).sum
  | [] => rfl
  | x :: t => by
    have := sum3 f g h t
    simp only [List.map_cons, List.sum_cons]
    omega
theorem sum_ind (a : Nat) : ∀ n : Nat, ((List.range n).map fun v : Nat => if (a : Int) = (v : Int) then (1 : Int) else 0).sum = if a < n then 1 else 0
  | 0 => rfl
  | n + 1 => by
    rw [List.range_succ, List.map_append, List.sum_append, sum_ind a n]
    simp only [List.map_cons, List.map_nil, List.sum_cons, List.sum_nil]
    by_cases h1 : a < n
    · rw [if_pos h1, if_neg (by omega), if_pos (by omega)]; rfl
    · by_cases h2 : a = n
      · subst h2; simp
      · rw [if_neg h1, if_neg (by omega), if_neg (by omega)]; rfl
theorem offs_sum {es : List (Int × Int)} {n : Nat} (hr : ∀ e ∈ es, 0 ≤ e.1 ∧ e.1 < n ∧ 0 ≤ e.2 ∧ e.2 < n) : ∀ k, k ≤ es.length → (offs es n k).sum = 0
  | 0, _ => by rw [offs_zero]; induction n with
    | zero => rfl
    | succ n ih => rw [List.replicate_succ, List.sum_cons]; simp
  | k + 1, hk => by
    have ih := offs_sum hr k (by omega)
    have hmem : es.getD k (0, 0) ∈ es := by simp [show k < es.length by omega]
    obtain ⟨q1, q2, q3, q4⟩ := hr _ hmem
    obtain ⟨⟨x, y⟩, hxy⟩ : ∃ e, e = es.getD k (0, 0) := ⟨_, rfl⟩
    rw [← hxy] at q1 q2 q3 q4
    obtain ⟨a, rfl⟩ := Int.eq_ofNat_of_zero_le q1
    obtain ⟨b, rfl⟩ := Int.eq_ofNat_of_zero_le q3
    have e1 : offs es n (k + 1) = (List.range n).map fun v : Nat => offK es k v + (if (a : Int) = (v : Int) then 1 else 0) - (if (b : Int) = (v : Int) then 1 else 0) := by
      unfold offs
      exact List.map_congr_left fun v _ => offK_succ (by omega) hxy.symm v
    rw [e1, sum3, sum_ind, sum_ind]
    simp only at q2 q4
    rw [if_pos (by omega), if_pos (by omega)]
    unfold offs at ih
    rw [ih]
    rfl
theorem sum_take (xs : List Int) (k : Nat) (hk : k < xs.length) : (xs.take (k + 1)).sum = (xs.take k).sum + xs.getD k 0 := by
  rw [List.take_succ_eq_append_getElem hk, List.sum_append]
  simp [hk]
theorem sum_small (xs : List Int) (h : ∀ x ∈ xs, -30 ≤ x ∧ x ≤ 30) : -(30 * (xs.length : Int)) ≤ xs.sum ∧ xs.sum ≤ 30 * (xs.length : Int) := by
  induction xs with
  | nil => simp
  | cons x t ih =>
    have h1 := h x (by simp)
    have h2 := ih fun y hy => h y (by simp [hy])
    rw [List.sum_cons, List.length_cons]
    omega

/-- What Off tells, as two values. -/
theorem off_val (n : Int) (es : List (Int × Int)) (lo : Option Addr) (lc : Nat) (W : World) (hx : PairsAt W lo es) (hl : es.length ≤ maxLen) :
    Calls Try.prog 7 #[.int .i64 n, .slice lo es.length lc] W fun e w' => (∃ ao c xs x, e = .returned (.tuple #[.slice ao xs.length c, x]) ∧ IntsAt .i64 w' ao xs ∧ xs.length ≤ 12 ∧ (∀ z ∈ xs, -30 ≤ z ∧ z ≤ 30) ∧ xs.sum = 0 ∧
      ((x = .nilIface ∧ (xs.length : Int) = n) ∨ ∃ k, x = .iface 37 (.int .i64 k))) ∧ Below W.heap.size W w' := by
  refine (off_any n es lo lc W hx hl).mono ?_
  rintro e w' ⟨⟨hok, g, rfl, ho⟩ | ⟨_, c, rfl⟩, hb⟩
  · refine ⟨?_, hb⟩
    have h1 := hok.1
    have h2 := hok.2.1
    have hnn : ((n.toNat : Nat) : Int) = n := by omega
    have hsum := offs_sum (n := n.toNat) (fun e he => by rw [hnn]; exact hok.2.2.2 e he) es.length (Nat.le_refl _)
    refine ⟨some ⟨g, 0, none⟩, n.toNat, offs es n.toNat es.length, .nilIface, by rw [offs_len], IntsAt.of_owns ho, by rw [offs_len]; omega, ?_, hsum, .inl ⟨rfl, by rw [offs_len]; exact hnn⟩⟩
    intro z hz
    simp only [offs, List.mem_map, List.mem_range] at hz
    obtain ⟨v, _, rfl⟩ := hz
    have := offK_bound es es.length v
    have := hok.2.2.1
    omega
  · exact ⟨⟨none, 0, [], _, rfl, IntsAt.nil _ _ _, by simp, by simp, rfl, .inr ⟨c, rfl⟩⟩, hb⟩
end Go.Proofs.Ytnbnfgljbhidbaa
