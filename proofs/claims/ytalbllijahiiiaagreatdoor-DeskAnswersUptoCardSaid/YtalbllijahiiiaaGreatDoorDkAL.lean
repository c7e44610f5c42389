/- slices.IndexFunc at tapes: the first one that fails. A tape's place falls along less. shrink.Walk, plainly. -/
import Derived.Test.YtalbllijahiiiaaGreatDoorDkAK
section
namespace Go.Proofs.YtalbllijahiiiaaGreatDoor
open Go.RowKit Go.Mine Go.Mine.Desk

def firstAt (f : List Int → Bool) (rows : List (List Int)) : Int := match rows.findIdx? f with
  | some i => (i : Int)
  | none => -1
theorem firstAt_hit {f : List Int → Bool} {rows : List (List Int)} {k : Nat} (hk : k < rows.length) (h0 : ∀ j, j < k → f (rows.getD j []) = false) (h1 : f (rows.getD k []) = true) : firstAt f rows = (k : Int) := by
  have : rows.findIdx? f = some k := by
    rw [List.findIdx?_eq_some_iff_getElem]
    refine ⟨hk, by simpa [hk] using h1, fun j hj => ?_⟩
    have := h0 j hj
    simpa [show j < rows.length by omega] using this
  rw [firstAt, this]
theorem firstAt_none {f : List Int → Bool} {rows : List (List Int)} (h0 : ∀ j, j < rows.length → f (rows.getD j []) = false) : firstAt f rows = -1 := by
  have : rows.findIdx? f = none := by
    rw [List.findIdx?_eq_none_iff]
    intro x hx
    obtain ⟨j, hj, rfl⟩ := List.getElem_of_mem hx
    have := h0 j hj
    simpa [hj] using this
  rw [firstAt, this]
theorem walk1_enters (args : Array Value) (w : World) : Sem.run Tryz.prog (callFunc 150 args) w = .ok (.enter 150 args) w := by kernel_rfl
set_option maxRecDepth 100000 in
set_option maxHeartbeats 1000000 in
theorem index_any (g : G) (v : Value) (hr : g.right) (n : Int) (eb gB eB : Nat) (gk ga gb : Int) (gao : Option Addr) (gn gc : Nat) (hsh : v = .agg #[.int .i64 gk, .int .i64 ga, .int .i64 gb, .slice gao gn gc]) (base : Nat) (uo : Option Addr) (uc : Nat) (rows : List (List Int)) (hl : rows.length ≤ 1000000) (w : World) (hg : Gl w) (he : ExprAt w eb n) (hv : GenAt w v g)
    (kg : Blk w gB 28 #[.int .i64 gk, .int .i64 ga, .int .i64 gb, .slice gao gn gc]) (ke : Blk w eB 41 #[.int .i64 7, .int .i64 0, .slice (some ⟨eb, 0, none⟩) 2 2]) (hgr : GridOwn w base (.slice uo rows.length uc) rows) :
    Calls Tryz.prog 149 #[.slice uo rows.length uc, .func (.func 150) #[] #[.pointer (some ⟨gB, 0, none⟩), .pointer (some ⟨eB, 0, none⟩)]] w fun e w' => e = .returned (.int .i64 (firstAt (bad g n) rows)) ∧ Below w.heap.size w w' := by
  obtain ⟨vs, hv1, hv2⟩ := hgr
  have HH := Lib.hid (And.intro hv1 (And.intro hv2 (And.intro hg (And.intro he (And.intro hv (And.intro kg ke))))))
  have hent := walk1_enters
  obtain ⟨m, hm⟩ : ∃ m, rows.length = m := ⟨_, rfl⟩
  obtain ⟨w2, hw2⟩ : ∃ w2, w2 = w := ⟨_, rfl⟩
  have HW2 := Lib.hid hw2
  rw [hm] at HH hl ⊢
  rw [← hw2]
  clear hv1 hv2 hg he hv kg ke hw2
  go_enter Tryz.func149, Tryz.ntmps149
  go_wp2_with fail
  go_loopw [5, 8] (fun _ kv wr => ∃ k : Nat, kv = .int .i64 (k : Int) ∧ k ≤ m ∧ RowKit.Hid (Below w2.heap.size w2 wr ∧ ∀ j, j < k → bad g n (rows.getD j []) = false)) (fun _ kv _ => m - (intOf kv).toNat)
  case atStart => exact ⟨0, rfl, by omega, Lib.hid ⟨Below.refl _ _, fun j hj => by omega⟩⟩
  case round =>
    obtain ⟨k, rfl, hk, HK⟩ := hrel
    have hbw : Below w.heap.size w wr := by rw [← HW2.out]; exact HK.out.1
    rcases Nat.lt_or_ge k m with hkm | hkm
    · obtain ⟨vj, hvj, hoj⟩ := HH.out.2.1 k (by omega)
      obtain ⟨jo, jc, rfl⟩ := owns_shape hoj
      obtain ⟨t, ht⟩ : ∃ t, rows.getD k [] = t := ⟨_, rfl⟩
      rw [ht] at hvj hoj
      rcases id HH.out.1.2 with ⟨_, h0⟩ | ⟨q, cap, cur, h1, hq1, hq2, _⟩
      · omega
      · simp only [Value.slice.injEq] at h1
        obtain ⟨rfl, _, rfl⟩ := h1
        have hcell := HH.out.1.cellAt k (by omega)
        rw [hvj] at hcell
        have hcj : wr.cell? ⟨q, k, none⟩ = some (.slice jo t.length jc) := (hbw.cell (p := ⟨q, k, none⟩) (Array.getElem?_eq_some_iff.1 hq2).1).trans hcell
        have hjat := (IntsAt.of_owns hoj).below (Nat.le_refl _) hbw
        have HC := Lib.hid (walk1_any g v hr n eb gB eB t jo t.length jc rfl (owns_len hoj) gk ga gb gao gn gc hsh wr (HH.out.2.2.1.on hbw) ((show Blk w eb _ _ from HH.out.2.2.2.1).below hbw) (HH.out.2.2.2.2.1.on hbw) hjat (HH.out.2.2.2.2.2.1.below hbw) (HH.out.2.2.2.2.2.2.below hbw))
        have hi0 : (0 : Int) ≤ (k : Int) := by omega
        have hi1 : (k : Int) < (m : Int) := by omega
        have hw1 : IntKind.i64.wrap ((k : Int) + 1) = ((k + 1 : Nat) : Int) := by rw [IntWalk.i64_in _ (by omega)]; omega
        have HT := Lib.hid ht
        clear hvj hoj hcell hjat hq1 hq2 ht
        cases hb : bad g n t with
        | true =>
          rw [hb] at HC
          have HF := Lib.hid (firstAt_hit (by omega) HK.out.2 (by rw [HT.out]; exact hb))
          clear hb
          go_wp2_with fail
          refine HC.out.mono ?_
          rintro e w3 ⟨rfl, hb3⟩
          have HB3 := Lib.hid (show Below w2.heap.size w2 w3 from HK.out.1.trans (hb3.mono HK.out.1.size))
          clear hb3
          go_wp2_with fail
          go_ret
          exact ⟨by rw [HF.out]; rfl, HB3.out⟩
        | false =>
          rw [hb] at HC
          have HF := Lib.hid (show ∀ j, j < k + 1 → bad g n (rows.getD j []) = false from fun j hj => by
            rcases Nat.lt_or_ge j k with h | h
            · exact HK.out.2 j h
            · obtain rfl : j = k := by omega
              rw [HT.out]; exact hb)
          clear hb
          go_wp2_with fail
          refine HC.out.mono ?_
          rintro e w3 ⟨rfl, hb3⟩
          have HB3 := Lib.hid (show Below w2.heap.size w2 w3 from HK.out.1.trans (hb3.mono HK.out.1.size))
          clear hb3
          go_wp2_with fail
          go_roundw
          case rel => exact ⟨k + 1, by go_num, by omega, Lib.hid ⟨HB3.out, HF.out⟩⟩
          case measure => simp [intOf]; omega
    · obtain rfl : k = m := by omega
      have HF := Lib.hid (firstAt_none (f := bad g n) (rows := rows) (fun j hj => HK.out.2 j (by omega)))
      clear hbw
      go_wp2_with fail
      go_ret
      exact ⟨by rw [HF.out]; rfl, HK.out.1⟩
end Go.Proofs.YtalbllijahiiiaaGreatDoor
end

section
namespace Go.Proofs.YtalbllijahiiiaaGreatDoor
open Go.RowKit Go.Mine Go.Mine.Desk

def digs (acc : Nat) (l : List Int) : Nat := l.foldl (fun acc x => acc * 1002 + x.toNat) acc
def tape1 (l : List Int) : Prop := ∀ x ∈ l, 0 ≤ x ∧ x ≤ 1000
theorem digs_lt : ∀ (a b : List Int) (p q : Nat), a.length = b.length → tape1 a → p < q → digs p a < digs q b
  | [], [], p, q, _, _, h => h
  | [], _ :: _, _, _, h, _, _ => by simp at h
  | _ :: _, [], _, _, h, _, _ => by simp at h
  | x :: a, y :: b, p, q, hl, ha, h => by
    refine digs_lt a b (p * 1002 + x.toNat) (q * 1002 + y.toNat) (by simpa using hl) (fun z hz => ha z (List.mem_cons_of_mem _ hz)) ?_
    have := ha x List.mem_cons_self
    omega
theorem digs_lex : ∀ (a b : List Int) (p : Nat), a.length = b.length → tape1 a → tape1 b → lexLt a b = true → digs p a < digs p b
  | [], _, p, _, _, _, h => by simp [lexLt] at h
  | _ :: _, [], p, h, _, _, _ => by simp at h
  | x :: a, y :: b, p, hl, ha, hb, h => by
    rw [lexLt] at h
    have hx := ha x List.mem_cons_self
    have hy := hb y List.mem_cons_self
    by_cases e : x = y
    · subst e
      rw [if_pos rfl] at h
      exact digs_lex a b (p * 1002 + x.toNat) (by simpa using hl) (fun z hz => ha z (List.mem_cons_of_mem _ hz)) (fun z hz => hb z (List.mem_cons_of_mem _ hz)) h
    · rw [if_neg e] at h
      have h' : x < y := by simpa using h
      exact digs_lt a b (p * 1002 + x.toNat) (p * 1002 + y.toNat) (by simpa using hl) (fun z hz => ha z (List.mem_cons_of_mem _ hz)) (by omega)
theorem digs_bound : ∀ (l : List Int) (p : Nat), tape1 l → digs p l < (p + 1) * 1002 ^ l.length
  | [], p, _ => by simp [digs]
  | x :: l, p, h => by
    have ih := digs_bound l (p * 1002 + x.toNat) (fun z hz => h z (List.mem_cons_of_mem _ hz))
    have hx := h x List.mem_cons_self
    refine Nat.lt_of_lt_of_le ih ?_
    rw [List.length_cons, Nat.pow_succ, Nat.mul_comm (1002 ^ l.length) 1002, ← Nat.mul_assoc]
    exact Nat.mul_le_mul_right _ (by omega)
theorem place_lt {a b : List Int} (ha : tape1 a) (hb : tape1 b) (hl : a.length ≤ 6) (h : tapeLt a b = true) : place a < place b := by
  unfold tapeLt at h
  show a.length * 1002 ^ 6 + digs 0 a < b.length * 1002 ^ 6 + digs 0 b
  by_cases e : a.length = b.length
  · rw [if_pos e] at h
    have := digs_lex a b 0 e ha hb h
    rw [e]
    omega
  · rw [if_neg e] at h
    have h' : a.length < b.length := by simpa using h
    have h1 := digs_bound a 0 ha
    have h2 : 1002 ^ a.length ≤ 1002 ^ 6 := Nat.pow_le_pow_right (by omega) hl
    have h3 : (a.length + 1) * 1002 ^ 6 ≤ b.length * 1002 ^ 6 := Nat.mul_le_mul_right _ (by omega)
    rw [Nat.succ_mul] at h3
    omega
end Go.Proofs.YtalbllijahiiiaaGreatDoor
end

section
namespace Go.Proofs.YtalbllijahiiiaaGreatDoor
open Go.RowKit Go.Mine Go.Mine.Desk

theorem clamp_b {m x : Int} (h : 0 ≤ m) (h1 : m ≤ 1000) : 0 ≤ clamp m x ∧ clamp m x ≤ 1000 := by unfold clamp; omega
theorem mend_tape1 {g : G} (hr : g.right) (l : List Int) : tape1 (mend g l) := by
  cases g with
  | int a b =>
    obtain ⟨_, _, h1, h2⟩ := hr
    intro x hx
    simp only [mend, List.mem_singleton] at hx
    rw [hx]
    exact clamp_b (by omega) h2
  | many n a b =>
    obtain ⟨h0, h5, _, _, h1, h2⟩ := hr
    intro x hx
    simp only [mend, List.mem_cons, List.mem_map] at hx
    rcases hx with rfl | ⟨i, _, rfl⟩
    · exact clamp_b h0 (by omega)
    · exact clamp_b (by omega) h2
theorem less_mem {g : G} {l m : List Int} (h : m ∈ less g l) : ∃ t, m = mend g t ∧ tapeLt m l = true := by
  unfold less lessAt at h
  simp only [List.mem_flatMap, List.mem_filter, List.mem_map] at h
  obtain ⟨i, _, ⟨t, _, rfl⟩, h2⟩ := h
  exact ⟨t, rfl, h2⟩
theorem less_place {g : G} (hr : g.right) {l m : List Int} (hl : tape1 l) (h : m ∈ less g l) : tape1 m ∧ m.length ≤ 6 ∧ place m < place l := by
  obtain ⟨t, rfl, h2⟩ := less_mem h
  have h3 := mend_tape1 hr t
  have h4 := mend_len g hr t
  exact ⟨h3, h4, place_lt h3 hl h4 h2⟩
attribute [local irreducible] Go.Mine.Desk.place
theorem walkF_more {g : G} (hr : g.right) (n : Int) : ∀ (f : Nat) (l : List Int), tape1 l → l.length ≤ 6 → place l ≤ f → walkF g n f l = walkF g n (place l) l
  | 0, l, _, _, h => by rw [show place l = 0 by omega]
  | f + 1, l, h1, h2, h => by
    cases hp : place l with
    | zero =>
      rw [walkF, walkF]
      cases hf : (less g l).find? (bad g n) with
      | none => rfl
      | some m =>
        have := (less_place hr h1 (List.mem_of_find?_eq_some hf)).2.2
        omega
    | succ p =>
      rw [walkF, walkF]
      cases hf : (less g l).find? (bad g n) with
      | none => rfl
      | some m =>
        obtain ⟨m1, m2, m3⟩ := less_place hr h1 (List.mem_of_find?_eq_some hf)
        simp only
        rw [walkF_more hr n f m m1 m2 (by omega), walkF_more hr n p m m1 m2 (by omega)]
theorem walk_step {g : G} (hr : g.right) (n : Int) {l : List Int} (h1 : tape1 l) (h2 : l.length ≤ 6) : walk g n l = match (less g l).find? (bad g n) with
    | none => (l, 0)
    | some m => ((walk g n m).1, (walk g n m).2 + 1) := by
  have h := walkF_more hr n (place l + 1) l h1 h2 (by omega)
  rw [walk, ← h, walkF]
  cases hf : (less g l).find? (bad g n) with
  | none => rfl
  | some m =>
    obtain ⟨m1, m2, m3⟩ := less_place hr h1 (List.mem_of_find?_eq_some hf)
    simp only
    rw [walkF_more hr n (place l) m m1 m2 (by omega)]
    rfl
end Go.Proofs.YtalbllijahiiiaaGreatDoor
end
