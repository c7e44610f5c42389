/- pool.Find: look, Find, whatever is asked. No conditions. -/
import Derived.Test.YtffpkfgohmhbnaaDoorRows
import Derived.Test.YtffpkfgohmhbnaaDoorLib
import Derived.Deep.QuietTactic
import Derived.BigQuiet
namespace Go.Proofs.YtffpkfgohmhbnaaDoor
open Go.RowKit Go.Mine

/-- What looking at from .. to tells, where each ask is answered by 'Ans': the numbers, and how many asks there were. -/
def Lk (Ans : Int → Int → Bool → Prop) : Nat → Int → Int → List Int → Nat → Prop
  | 0, _, _, L, k => L = [] ∧ k = 0
  | f + 1, a, b, L, k => (a = b ∧ L = [] ∧ k = 0) ∨ (a < b ∧ Ans a b false ∧ L = [] ∧ k = 1) ∨ (b = a + 1 ∧ Ans a b true ∧ L = [a] ∧ k = 1) ∨
      (a + 1 < b ∧ Ans a b true ∧ ∃ L1 L2 k1 k2, Lk Ans f a (a + (b - a) / 2) L1 k1 ∧ Lk Ans f (a + (b - a) / 2) b L2 k2 ∧ L = L1 ++ L2 ∧ k = 1 + k1 + k2)

theorem Lk.count {Ans : Int → Int → Bool → Prop} : ∀ {f : Nat} {a b : Int} {L : List Int} {k : Nat}, Lk Ans f a b L k → a ≤ b → (k : Int) ≤ 2 * (b - a) ∧ (a < b → (k : Int) + 1 ≤ 2 * (b - a)) ∧ (L.length : Int) ≤ b - a
  | 0, a, b, L, k, h, hab => by obtain ⟨rfl, rfl⟩ := h; simp; omega
  | f + 1, a, b, L, k, h, hab => by
    rcases h with ⟨rfl, rfl, rfl⟩ | ⟨h1, _, rfl, rfl⟩ | ⟨h1, _, rfl, rfl⟩ | ⟨h1, _, L1, L2, k1, k2, h2, h3, rfl, rfl⟩
    · simp
    · simp; omega
    · simp; omega
    · have i1 := h2.count (by omega)
      have i2 := h3.count (by omega)
      simp
      omega

theorem info3 : (Tryd.prog.info? 3).map (fun i => (i.zero, i.size, i.bytes)) = some (some (.int .i64 0), 1, 8) := by kernel_rfl

/-- What look finds in memory and leaves there. -/
structure Own (F : Nat) (cap : Array Value) (B : Nat) (L : List Int) (w : World) : Prop where
  asker : w.cell? ⟨B, 0, none⟩ = some (.func (.func F) #[] cap)
  out : ∃ v, w.cell? ⟨B + 1, 0, none⟩ = some v ∧ w.ownsRow (B + 3) 3 1 v L.length (L.map (Value.int .i64))
  frozen : w.frozen? ⟨B + 1, 0, none⟩ = false
  look : w.cell? ⟨B + 1 + 1, 0, none⟩ = some (.func (.func 10) #[] #[.pointer (some ⟨B, 0, none⟩), .pointer (some ⟨B + 1, 0, none⟩), .pointer (some ⟨B + 1 + 1, 0, none⟩)])
  size : B + 3 ≤ w.heap.size

theorem Own.low {F : Nat} {cap : Array Value} {B : Nat} {L : List Int} {w w' : World} (h : Own F cap B L w) (hl : Low B w w') : Own F cap B L w' := by
  obtain ⟨v, h1, h2⟩ := h.out
  exact ⟨(hl.cell (by simp)).trans h.asker, ⟨v, (hl.cell (by dsimp; omega)).trans h1, hl.owns h2 (by omega)⟩, (hl.frozen (by dsimp; omega)).trans h.frozen, (hl.cell (by dsimp; omega)).trans h.look, by rw [hl.size]; exact h.size⟩

theorem Own.block {F : Nat} {cap : Array Value} {B : Nat} {L : List Int} {w w' : World} {v : Value} {L' : List Int} (h : Own F cap B L w) (hs : w.heap.size ≤ w'.heap.size) (hk : ∀ k, k = B ∨ k = B + 1 + 1 → w'.heap[k]? = w.heap[k]?)
    (h1 : w'.cell? ⟨B + 1, 0, none⟩ = some v) (h2 : w'.ownsRow (B + 3) 3 1 v L'.length (L'.map (Value.int .i64))) (h3 : w'.frozen? ⟨B + 1, 0, none⟩ = false) : Own F cap B L' w' :=
  ⟨(World.cell?_of_block (w := w) (hk B (.inl rfl))).trans h.asker, ⟨v, h1, h2⟩, h3, (World.cell?_of_block (w := w) (hk (B + 1 + 1) (.inr rfl))).trans h.look, Nat.le_trans h.size hs⟩

/-- 'out = append(out, x)': what the two steps leave. -/
theorem push_facts {B : Nat} {W w1 : World} {v v' : Value} {L : List Int} {x : Int} {F : Nat} {cap : Array Value} (h : Own F cap B L W) (hv : W.cell? ⟨B + 1, 0, none⟩ = some v) (ho : W.ownsRow (B + 3) 3 1 v L.length (L.map (Value.int .i64)))
    (ho' : w1.ownsRow (B + 3) 3 1 v' (L.length + 1) (L.map (Value.int .i64) ++ [.int .i64 x])) (hg : (W.alloc (.cells #[.int .i64 x] 3)).grownBy w1 v.ownBlock) :
    w1.cell? ⟨B + 1, 0, none⟩ = some v ∧ w1.frozen? ⟨B + 1, 0, none⟩ = false ∧ Own F cap B (L ++ [x]) (w1.setCell ⟨B + 1, 0, none⟩ v') ∧ Below B W (w1.setCell ⟨B + 1, 0, none⟩ v') := by
  have hs := h.size
  have hrow : ∀ k, v.ownBlock = some k → B + 3 ≤ k := fun k hk => (ho.lt k hk).1
  have hne : ∀ k, k < B + 3 → some k ≠ v.ownBlock := fun k hk e => by have := hrow k e.symm; omega
  have hblk : ∀ k, k < B + 3 → w1.heap[k]? = W.heap[k]? := fun k hk => (hg.block k (by simp; omega) (hne k hk)).trans (Below.heap_alloc _ _ _ (by omega))
  have c1 : w1.cell? ⟨B + 1, 0, none⟩ = some v := (World.cell?_of_block (w := W) (hblk (B + 1) (by omega))).trans hv
  have f1 : w1.frozen? ⟨B + 1, 0, none⟩ = false := (World.frozen?_of_block (w := W) (hblk (B + 1) (by omega))).trans h.frozen
  have hsz : W.heap.size ≤ w1.heap.size := by have := hg.size; simp at this; omega
  refine ⟨c1, f1, h.block (by simpa using hsz) ?_ (World.cell?_setCell_same _ _ _ c1) ?_ (by simpa using f1), ?_⟩
  · rintro k (rfl | rfl)
    · rw [Below.heap_setCell _ _ _ _ (by dsimp; omega)]; exact hblk _ (by omega)
    · rw [Below.heap_setCell _ _ _ _ (by dsimp; omega)]; exact hblk _ (by omega)
  · have := ownsRow_setCell_below ho' (a := ⟨B + 1, 0, none⟩) (by dsimp; omega) v'
    simpa using this
  · exact (((Below.refl B W).alloc (by omega) _).grown hg (by simp; omega) (fun k hk => by have := hrow k hk; omega)).setCell (by dsimp; omega) _

set_option maxHeartbeats 400000 in
theorem look_any (F : Nat) (cap : Array Value) (B n : Nat) (hn : n ≤ 1000) (J : Nat → World → Prop) (Ans : Int → Int → Bool → Prop)
    (hJ : ∀ k w w', J k w → Below B w w' → J k w')
    (hrun : ∀ (a b : Int) (w : World), Sem.run Tryd.prog (callFunc F (#[.int .i64 a, .int .i64 b] ++ cap)) w = .ok (.enter F (#[.int .i64 a, .int .i64 b] ++ cap)) w)
    (hf : ∀ (a b : Int) (k : Nat) (w : World), 0 ≤ a → a < b → b ≤ n → k < 2 * n → J k w → Calls Tryd.prog F (#[.int .i64 a, .int .i64 b] ++ cap) w fun e w' => ∃ c, e = .returned (.bool c) ∧ Ans a b c ∧ J (k + 1) w' ∧ Low B w w') :
    ∀ (f : Nat) (a b : Int) (k : Nat) (L : List Int) (W : World), b - a ≤ f → 0 ≤ a → a ≤ b → b ≤ n → (k : Int) + 2 * (b - a) ≤ 2 * n → (L.length : Int) + (b - a) ≤ 1000 → J k W → Own F cap B L W →
      Calls Tryd.prog 10 #[.int .i64 a, .int .i64 b, .pointer (some ⟨B, 0, none⟩), .pointer (some ⟨B + 1, 0, none⟩), .pointer (some ⟨B + 1 + 1, 0, none⟩)] W
        fun e w' => e = .returned (.tuple #[]) ∧ ∃ L' k', Lk Ans (f + 1) a b L' k' ∧ J (k + k') w' ∧ Own F cap B (L ++ L') w' := by
  obtain ⟨i0, hi, hz0, hz1, hz2⟩ := info_parts info3
  have HJ := Lib.hid hJ; clear hJ
  have HF := Lib.hid hf; clear hf
  intro f
  induction f with
  | zero =>
    intro a b k L W hf h0 hab hb hk hL hj ho
    obtain rfl : a = b := by omega
    go_enter Tryd.func10, Tryd.ntmps10
    go_wp2_with fail
    (try simp only [Exit.inBlock, Exit.then]); refine bodyPost_ret (results_none rfl _ _ _) rfl ?_
    exact ⟨rfl, [], 0, .inl ⟨rfl, rfl, rfl⟩, by simpa using hj, by simpa using ho⟩
  | succ f ih =>
    intro a b k L W hf h0 hab hb hk hL hj ho
    have IH := Lib.hid ih; clear ih
    by_cases hab' : a = b
    · subst hab'
      go_enter Tryd.func10, Tryd.ntmps10
      go_wp2_with fail
      (try simp only [Exit.inBlock, Exit.then]); refine bodyPost_ret (results_none rfl _ _ _) rfl ?_
      exact ⟨rfl, [], 0, .inl ⟨rfl, rfl, rfl⟩, by simpa using hj, by simpa using ho⟩
    · have hlt : a < b := by omega
      have ca := ho.asker
      have cl := ho.look
      go_enter Tryd.func10, Tryd.ntmps10
      go_wp2_with fail
      refine (HF.out a b k W h0 hlt hb (by omega) hj).mono ?_
      rintro e w1 ⟨c, rfl, hans, hj1, hlow⟩
      have ho1 := ho.low hlow
      clear ca cl ho
      have HA := Lib.hid hans; clear hans
      cases c
      · go_wp2_with fail
        (try simp only [Exit.inBlock, Exit.then]); refine bodyPost_ret (results_none rfl _ _ _) rfl ?_
        exact ⟨rfl, [], 1, .inr (.inl ⟨hlt, HA.out, rfl, rfl⟩), hj1, by simpa using ho1⟩
      · by_cases h1 : b - a = 1
        · obtain rfl : b = a + 1 := by omega
          obtain ⟨v, hv, hov⟩ := ho1.out
          have hfz := ho1.frozen
          have hsz := ho1.size
          go_wp2_with (at_builtin; refine wpList_push _ rfl _ _ 22 rfl (B + 3) 3 i0 (.int .i64 0) 1 8 Tryd.underlying22 hi hz0 hz1 hz2 rfl (by decide) _ _ _ rfl (hov.alloc _) ⟨w1.heap.size, 0, none⟩ 1 [.int .i64 a] rfl rfl (cell_one_new _ _ _) ?c2 ?c3 ?c4 ?c5 ?_)
          case c2 => intro u hu; simp at hu; subst hu; rfl
          case c3 => unfold maxLen; omega
          case c4 => omega
          case c5 => simp; omega
          intro g2 cap2 w2 hown2 hg2
          have R := push_facts ho1 hv hov hown2 hg2
          obtain ⟨r1, r2, r3, r4⟩ := R
          clear hown2 hg2 hov
          go_wp2_with fail
          (try simp only [Exit.inBlock, Exit.then]); refine bodyPost_ret (results_none rfl _ _ _) rfl ?_
          exact ⟨rfl, [a], 1, .inr (.inr (.inl ⟨rfl, HA.out, rfl, rfl⟩)), HJ.out _ _ _ hj1 r4, r3⟩
        · have cl := ho1.look
          have hd : a + 1 < b := by omega
          clear hlow
          go_wp2_with fail
          refine (IH.out a (a + (b - a) / 2) (k + 1) L w1 (by omega) (by omega) (by omega) (by omega) (by omega) (by omega) hj1 ho1).mono ?_
          rintro e w2 ⟨rfl, L1, k1, hk1, hj2, ho2⟩
          have C1 := hk1.count (by omega)
          have HK1 := Lib.hid hk1; clear hk1
          have cl2 := ho2.look
          clear cl ho1
          go_wp2_with fail
          refine (IH.out (a + (b - a) / 2) b (k + 1 + k1) (L ++ L1) w2 (by omega) (by omega) (by omega) (by omega) (by omega) (by simp; omega) hj2 ho2).mono ?_
          rintro e w3 ⟨rfl, L2, k2, hk2, hj3, ho3⟩
          have HK2 := Lib.hid hk2; clear hk2
          clear cl2 ho2
          go_wp2_with fail
          go_end0
          exact ⟨rfl, L1 ++ L2, 1 + k1 + k2, .inr (.inr (.inr ⟨hd, HA.out, L1, L2, k1, k2, HK1.out, HK2.out, rfl, rfl⟩)), by rw [show k + (1 + k1 + k2) = k + 1 + k1 + k2 by omega]; exact hj3, by rw [← List.append_assoc]; exact ho3⟩

theorem find_bad (n : Int) (F : Nat) (cap : Array Value) (W : World) (hn : n < 0 ∨ 1000 < n) :
    Calls Tryd.prog 4 #[.int .i64 n, .func (.func F) #[] cap] W fun e w' => e = .returned (.tuple #[.slice none 0 0, .iface 29 (.int .i64 1)]) ∧ w' = W.alloc (.cells #[.func (.func F) #[] cap] 27) := by
  rcases hn with h | h
  · go_enter Tryd.func4, Tryd.ntmps4
    go_wp2
    go_ret2
    exact ⟨rfl, rfl⟩
  · have h' : ¬ n < 0 := by omega
    go_enter Tryd.func4, Tryd.ntmps4
    go_wp2
    go_ret2
    exact ⟨rfl, rfl⟩

theorem Lk.within {Ans : Int → Int → Bool → Prop} : ∀ {f : Nat} {a b : Int} {L : List Int} {k : Nat}, Lk Ans f a b L k → a ≤ b → (∀ x ∈ L, a ≤ x ∧ x < b) ∧ L.Pairwise (· < ·)
  | 0, a, b, L, k, h, hab => by obtain ⟨rfl, rfl⟩ := h; simp
  | f + 1, a, b, L, k, h, hab => by
    rcases h with ⟨rfl, rfl, rfl⟩ | ⟨h1, _, rfl, rfl⟩ | ⟨h1, _, rfl, rfl⟩ | ⟨h1, _, L1, L2, k1, k2, h2, h3, rfl, rfl⟩
    · simp
    · simp
    · simp; omega
    · have i1 := h2.within (by omega)
      have i2 := h3.within (by omega)
      refine ⟨fun x hx => ?_, List.pairwise_append.2 ⟨i1.2, i2.2, fun x hx y hy => ?_⟩⟩
      · rcases List.mem_append.1 hx with hx | hx
        · have := i1.1 x hx; omega
        · have := i2.1 x hx; omega
      · have := i1.1 x hx
        have := i2.1 y hy
        omega

set_option maxHeartbeats 400000 in
theorem find_any (F : Nat) (cap : Array Value) (n : Nat) (hn : n ≤ 1000) (J : Nat → World → Prop) (Ans : Int → Int → Bool → Prop) (W : World) (h0 : J 0 W)
    (hJ : ∀ k w w', J k w → Below W.heap.size w w' → J k w')
    (hrun : ∀ (a b : Int) (w : World), Sem.run Tryd.prog (callFunc F (#[.int .i64 a, .int .i64 b] ++ cap)) w = .ok (.enter F (#[.int .i64 a, .int .i64 b] ++ cap)) w)
    (hf : ∀ (a b : Int) (k : Nat) (w : World), 0 ≤ a → a < b → b ≤ n → k < 2 * n → J k w → Calls Tryd.prog F (#[.int .i64 a, .int .i64 b] ++ cap) w fun e w' => ∃ c, e = .returned (.bool c) ∧ Ans a b c ∧ J (k + 1) w' ∧ Low W.heap.size w w') :
    Calls Tryd.prog 4 #[.int .i64 n, .func (.func F) #[] cap] W fun e w' => ∃ v L k, e = .returned (.tuple #[v, .nilIface]) ∧ Lk Ans (n + 1) 0 n L k ∧ J k w' ∧ w'.ownsRow (W.heap.size + 3) 3 1 v L.length (L.map (Value.int .i64)) ∧ W.heap.size + 3 ≤ w'.heap.size := by
  have hB : Below W.heap.size W (((W.alloc (.cells #[.func (.func F) #[] cap] 27)).alloc (.cells #[.slice none 0 0] 22)).alloc
      (.cells #[.func (.func 10) #[] #[.pointer (some ⟨W.heap.size, 0, none⟩), .pointer (some ⟨W.heap.size + 1, 0, none⟩), .pointer (some ⟨W.heap.size + 1 + 1, 0, none⟩)]] 33)) :=
    (((Below.refl _ _).alloc (Nat.le_refl _) _).alloc (by simp) _).alloc (by simp; omega) _
  have h1 := hJ _ _ _ h0 hB
  have HJ := Lib.hid hJ; clear hJ
  have HF := Lib.hid hf; clear hf
  have HR := Lib.hid hrun; clear hrun
  go_enter Tryd.func4, Tryd.ntmps4
  go_wp2_with fail
  refine (look_any F cap W.heap.size n hn J Ans HJ.out HR.out HF.out n 0 n 0 [] _ (by omega) (by omega) (by omega) (by omega) (by omega) (by simp; omega) h1 ?_).mono ?_
  · refine ⟨?_, ⟨.slice none 0 0, ?_, World.ownsRow_nil _ _ _ _⟩, ?_, ?_, by simp⟩ <;> simp [go_sem]
  rintro e w1 ⟨rfl, L, k, hk, hj, ho⟩
  have HK := Lib.hid hk; clear hk
  obtain ⟨v, hv, hov⟩ := ho.out
  go_wp2_with fail
  go_ret2
  exact ⟨v, L, k, rfl, HK.out, by simpa using hj, by simpa using hov, ho.size⟩

theorem Lk.mem {Ans : Int → Int → Bool → Prop} (P : Int → Prop) (hS : ∀ a b c, Ans a b c → (c = true ↔ ∃ x, a ≤ x ∧ x < b ∧ P x)) : ∀ {f : Nat} {a b : Int} {L : List Int} {k : Nat}, Lk Ans f a b L k → a ≤ b → b - a < f → ∀ x, x ∈ L ↔ (a ≤ x ∧ x < b ∧ P x)
  | 0, a, b, L, k, h, hab, hf => by omega
  | f + 1, a, b, L, k, h, hab, hf => by
    intro x
    rcases h with ⟨rfl, rfl, rfl⟩ | ⟨h1, ha, rfl, rfl⟩ | ⟨h1, ha, rfl, rfl⟩ | ⟨h1, _, L1, L2, k1, k2, h2, h3, rfl, rfl⟩
    · simp; omega
    · have := (hS _ _ _ ha)
      simp at this
      simp
      exact fun h1 h2 => this x h1 h2
    · have := (hS _ _ _ ha).1 rfl
      subst h1
      obtain ⟨y, h1, h2, h3⟩ := this
      obtain rfl : y = a := by omega
      constructor
      · intro h; simp at h; subst h; exact ⟨h1, h2, h3⟩
      · rintro ⟨h4, h5, _⟩; simp; omega
    · have i1 := h2.mem P hS (by omega) (by omega) x
      have i2 := h3.mem P hS (by omega) (by omega) x
      rw [List.mem_append, i1, i2]
      constructor
      · rintro (⟨h1, h2, h3⟩ | ⟨h1, h2, h3⟩)
        · exact ⟨h1, by omega, h3⟩
        · exact ⟨by omega, h2, h3⟩
      · rintro ⟨h1, h2, h3⟩
        by_cases h : x < a + (b - a) / 2
        · exact .inl ⟨h1, h, h3⟩
        · exact .inr ⟨by omega, h2, h3⟩

theorem only_three {L : List Int} {k : Nat} (h : Lk (fun a b c => c = decide (a ≤ 3 ∧ 3 < b)) 6 0 5 L k) : L = [3] := by
  have hm := h.mem (fun x => x = 3) (by intro a b c hc; subst hc; simp) (by omega) (by omega)
  have hs := (h.within (by omega)).2
  match L, hm, hs with
  | [], hm, _ => have := (hm 3).2 (by omega); simp at this
  | [x], hm, _ => have := (hm x).1 (by simp); rw [this.2.2]
  | x :: y :: L, hm, hs =>
    have h1 := (hm x).1 (by simp)
    have h2 := (hm y).1 (by simp)
    have := (List.pairwise_cons.1 hs).1 y (by simp)
    omega

end Go.Proofs.YtffpkfgohmhbnaaDoor
