import Derived.Test.YtffpkfgohmhbnaaA
namespace Go.Proofs.Ytffpkfgohmhbnaa
open Go.RowKit Go.Mine

theorem find_bad (n : Int) (F : Nat) (cap : Array Value) (W : World) (hn : n < 0 ∨ 1000 < n) :
    Calls Try.prog 5 #[.int .i64 n, .func (.func F) #[] cap] W fun e w' => e = .returned (.tuple #[.slice none 0 0, .iface 33 (.int .i64 1)]) ∧ w' = W.alloc (.cells #[.func (.func F) #[] cap] 29) := by
  rcases hn with h | h
  · go_enter Try.func5, Try.ntmps5
    go_wp2
    go_ret2
    exact ⟨rfl, rfl⟩
  · have h' : ¬ n < 0 := by omega
    go_enter Try.func5, Try.ntmps5
    go_wp2
    go_ret2
    exact ⟨rfl, rfl⟩

theorem Lk.within {Ans : Int → Int → Bool → Prop} : ∀ {f : Nat} {a b : Int} {L : List Int} {k : Nat}, Lk Ans f a b L k → a ≤ b → (∀ x ∈ L, a ≤ x ∧ x < b) ∧ L.Pairwise (· < ·)
  | 0, a, b, L, k, h, hab => by obtain ⟨rfl, rfl⟩ := h; simp
  | f + 1, a, b, L, k, h, hab => by
    rcases h with ⟨rfl, rfl, rfl⟩ | ⟨h1, _, rfl, rfl⟩ | ⟨h1, _, rfl, rfl⟩ | ⟨h1, _, L1, L2, k1, k2, h2, h3, rfl, rfl⟩
    · simp
    · simp
    · simp; omega
    · have i1 := h2.within (by omega)
      have i2 := h3.within (by omega)
      refine ⟨fun x hx => ?_, List.pairwise_append.2 ⟨i1.2, i2.2, fun x hx y hy => ?_⟩⟩
      · rcases List.mem_append.1 hx with hx | hx
        · have := i1.1 x hx; omega
        · have := i2.1 x hx; omega
      · have := i1.1 x hx
        have := i2.1 y hy
        omega

set_option maxHeartbeats 400000 in
theorem find_any (F : Nat) (cap : Array Value) (n : Nat) (hn : n ≤ 1000) (J : Nat → World → Prop) (Ans : Int → Int → Bool → Prop) (W : World) (h0 : J 0 W)
    (hJ : ∀ k w w', J k w → Below W.heap.size w w' → J k w')
    (hrun : ∀ (a b : Int) (w : World), Sem.run Try.prog (callFunc F (#[.int .i64 a, .int .i64 b] ++ cap)) w = .ok (.enter F (#[.int .i64 a, .int .i64 b] ++ cap)) w)
    (hf : ∀ (a b : Int) (k : Nat) (w : World), 0 ≤ a → a < b → b ≤ n → k < 2 * n → J k w → Calls Try.prog F (#[.int .i64 a, .int .i64 b] ++ cap) w fun e w' => ∃ c, e = .returned (.bool c) ∧ Ans a b c ∧ J (k + 1) w' ∧ Low W.heap.size w w') :
    Calls Try.prog 5 #[.int .i64 n, .func (.func F) #[] cap] W fun e w' => ∃ v L k, e = .returned (.tuple #[v, .nilIface]) ∧ Lk Ans (n + 1) 0 n L k ∧ J k w' ∧ w'.ownsRow (W.heap.size + 3) 3 1 v L.length (L.map (Value.int .i64)) ∧ W.heap.size + 3 ≤ w'.heap.size := by
  have hB : Below W.heap.size W (((W.alloc (.cells #[.func (.func F) #[] cap] 29)).alloc (.cells #[.slice none 0 0] 22)).alloc
      (.cells #[.func (.func 14) #[] #[.pointer (some ⟨W.heap.size, 0, none⟩), .pointer (some ⟨W.heap.size + 1, 0, none⟩), .pointer (some ⟨W.heap.size + 1 + 1, 0, none⟩)]] 34)) :=
    (((Below.refl _ _).alloc (Nat.le_refl _) _).alloc (by simp) _).alloc (by simp; omega) _
  have h1 := hJ _ _ _ h0 hB
  have HJ := Lib.hid hJ; clear hJ
  have HF := Lib.hid hf; clear hf
  have HR := Lib.hid hrun; clear hrun
  go_enter Try.func5, Try.ntmps5
  go_wp2_with fail
  refine (look_any F cap W.heap.size n hn J Ans HJ.out HR.out HF.out n 0 n 0 [] _ (by omega) (by omega) (by omega) (by omega) (by omega) (by simp; omega) h1 ?_).mono ?_
  · refine ⟨?_, ⟨.slice none 0 0, ?_, World.ownsRow_nil _ _ _ _⟩, ?_, ?_, by simp⟩ <;> simp [go_sem]
  rintro e w1 ⟨rfl, L, k, hk, hj, ho⟩
  have HK := Lib.hid hk; clear hk
  obtain ⟨v, hv, hov⟩ := ho.out
  go_wp2_with fail
  go_ret2
  exact ⟨v, L, k, rfl, HK.out, by simpa using hj, by simpa using hov, ho.size⟩
end Go.Proofs.Ytffpkfgohmhbnaa
