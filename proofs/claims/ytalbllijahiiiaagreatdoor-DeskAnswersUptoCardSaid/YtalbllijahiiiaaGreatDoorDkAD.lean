/- gen.Replay. gen.Mend. -/
import Derived.Test.YtalbllijahiiiaaGreatDoorDkAC
section
namespace Go.Proofs.YtalbllijahiiiaaGreatDoor
open Go.RowKit Go.Mine Go.Mine.Desk

abbrev errnoE (c : Int) (r : Bool) : PanicEntry := { v := .iface 36 (.int .i64 c), recovered := r }
theorem catch_idle (p q : Addr) (w : World) :
    CallsD Tryz.prog 84 #[.pointer (some p), .pointer (some q)] .returning w fun e u' w' => e = .returned (.tuple #[]) ∧ u' = .returning ∧ w' = w := by
  refine callsD_of_wpS Tryz.func84 rfl fun c₀ cs hu => ?_
  apply wpS_seq
  apply wpS_region
  simp [wpOpsS, go_sem, recoverD, hu, Tryz.ntmps84, Exit.thenS]
  rw [show #[.pointer (some p), .pointer (some q)] ++ ((Array.replicate 17 undef).setIfInBounds 3 (.nilIface : Value)).setIfInBounds 0 .nilIface = #[.pointer (some p), .pointer (some q), .nilIface, undef, undef, .nilIface, undef, undef, undef, undef, undef, undef, undef, undef, undef, undef, undef, undef, undef] from by kernel_rfl]
  refine wpS_of_wp ?_
  go_wp2_with fail
  cases c₀
  simp_all [bodyPostS, results, Tryz.results84]
theorem assert_errno (c : Int) (w : World) : (Instr.typeAssert (.iface 36 (.int .i64 c)) 20 36 true).run Tryz.prog w = .ok (.tuple #[.int .i64 c, .bool true]) w := by kernel_rfl
set_option maxRecDepth 100000 in
theorem catch_panicking (b4 b5 : Nat) (c : Int) (v0 v1 v2 ev : Value) (older : List PanicEntry) (w : World) (h4 : Blk w b4 53 #[v0, v1, v2]) (h5 : Blk w b5 100 #[ev]) (hne : b4 ≠ b5) :
    CallsD Tryz.prog 84 #[.pointer (some ⟨b4, 0, none⟩), .pointer (some ⟨b5, 0, none⟩)] (.panicking (errnoE c false :: older)) w fun e u' w' =>
      e = .returned (.tuple #[]) ∧ u' = .panicking (errnoE c true :: older) ∧ w' = (((w.setCell ⟨b4, 0, none⟩ (.bool false)).setCell ⟨b4, 1, none⟩ (.int .i64 0)).setCell ⟨b4, 2, none⟩ (.slice none 0 0)).setCell ⟨b5, 0, none⟩ (.iface 36 (.int .i64 c)) := by
  have c0 : w.cell? ⟨b4, 0, none⟩ = some v0 := h4.cell 0
  have c1 : w.cell? ⟨b4, 1, none⟩ = some v1 := h4.cell 1
  have c2 : w.cell? ⟨b4, 2, none⟩ = some v2 := h4.cell 2
  have f0 := h4.froz 0
  have f1 := h4.froz 1
  have f2 := h4.froz 2
  have d0 : w.cell? ⟨b5, 0, none⟩ = some ev := h5.cell 0
  have g0 := h5.froz 0
  have hta := assert_errno c
  refine callsD_of_wpS Tryz.func84 rfl fun c₀ cs hu => ?_
  apply wpS_seq
  apply wpS_region
  simp [wpOpsS, go_sem, recoverD, hu, Tryz.ntmps84, Exit.thenS]
  rw [show #[.pointer (some ⟨b4, 0, none⟩), .pointer (some ⟨b5, 0, none⟩)] ++ ((Array.replicate 17 undef).setIfInBounds 3 ((.iface 36 (.int .i64 c)) : Value)).setIfInBounds 0 (.iface 36 (.int .i64 c)) = #[.pointer (some ⟨b4, 0, none⟩), .pointer (some ⟨b5, 0, none⟩), (.iface 36 (.int .i64 c)), undef, undef, (.iface 36 (.int .i64 c)), undef, undef, undef, undef, undef, undef, undef, undef, undef, undef, undef, undef, undef] from by kernel_rfl]
  refine wpS_of_wp ?_
  go_wp2_with fail
  cases c₀
  simp_all [bodyPostS, results, Tryz.results84]
def RepPost (g : G) (ts : List Int) (w : World) (e : Ending) (w' : World) : Prop :=
  Below w.heap.size w w' ∧ ((∃ x v, replay g ts = .ok x ∧ e = .returned (.tuple #[v, .nilIface]) ∧ ValAt w' w.heap.size v x) ∨ (∃ c, replay g ts = .error c ∧ e = .returned (.tuple #[numV' 0, .iface 36 (.int .i64 c)])))
set_option maxRecDepth 100000 in
set_option maxHeartbeats 2000000 in
theorem replay_any (g : G) (v : Value) (hr : g.right) (ts : List Int) (ao : Option Addr) (n c : Nat) (hn : ts.length = n) (hl : n ≤ maxLen) (w : World) (hv : GenAt w v g) (hat : IntsAt .i64 w ao ts) :
    Calls Tryz.prog 58 #[v, .slice ao n c] w (RepPost g ts w) := by
  obtain ⟨gk, ga, gb, gao, gn, gc, hsh⟩ := hv.shape
  obtain ⟨w0, hw0⟩ : ∃ w0, w0 = (((w.alloc (.cells #[.int .i64 gk, .int .i64 ga, .int .i64 gb, .slice gao gn gc] 28)).alloc (.cells #[.slice ao n c] 48)).alloc (.cells #[.bool false, .int .i64 0, .slice none 0 0] 53)).alloc (.cells #[.nilIface] 100) := ⟨_, rfl⟩
  have hs0 : w0.heap.size = w.heap.size + 4 := by rw [hw0]; simp
  have hb0 : Below w.heap.size w w0 := by rw [hw0]; exact ((((Below.refl w.heap.size w).alloc (Nat.le_refl _) _).alloc (by simp) _).alloc (by simp; omega) _).alloc (by simp; omega) _
  have k0 : Blk w0 w.heap.size 28 #[.int .i64 gk, .int .i64 ga, .int .i64 gb, .slice gao gn gc] := by rw [hw0]; exact (((Blk.new _ _ _).alloc _).alloc _).alloc _
  have k1 : Blk w0 (w.heap.size + 1) 48 #[.slice ao n c] := by rw [hw0]; exact ((show Blk ((w.alloc _).alloc (.cells #[.slice ao n c] 48)) (w.heap.size + 1) _ _ by have := Blk.new (w.alloc (.cells #[.int .i64 gk, .int .i64 ga, .int .i64 gb, .slice gao gn gc] 28)) 48 #[.slice ao n c]; simpa using this).alloc _).alloc _
  have k2 : Blk w0 (w.heap.size + 2) 53 #[.bool false, .int .i64 0, .slice none 0 0] := by rw [hw0]; exact (show Blk (((w.alloc _).alloc _).alloc (.cells #[.bool false, .int .i64 0, .slice none 0 0] 53)) (w.heap.size + 2) _ _ by have := Blk.new ((w.alloc (.cells #[.int .i64 gk, .int .i64 ga, .int .i64 gb, .slice gao gn gc] 28)).alloc (.cells #[.slice ao n c] 48)) 53 #[.bool false, .int .i64 0, .slice none 0 0]; simpa using this).alloc _
  have k3 : Blk w0 (w.heap.size + 3) 100 #[.nilIface] := by rw [hw0]; have := Blk.new (((w.alloc (.cells #[.int .i64 gk, .int .i64 ga, .int .i64 gb, .slice gao gn gc] 28)).alloc (.cells #[.slice ao n c] 48)).alloc (.cells #[.bool false, .int .i64 0, .slice none 0 0] 53)) 100 #[.nilIface]; simpa using this
  have hv0 := hv.on hb0
  have HCHK := Lib.hid (checkR_any g v hr w0 hv0)
  have hmf : ∀ (fn : Fn) (first cap : Array Value) (w : World), (Instr.makeFunc fn first cap).run Tryz.prog w = .ok (.func fn first cap) w := fun _ _ _ _ => rfl
  obtain ⟨B, hB⟩ : ∃ B, w.heap.size = B := ⟨_, rfl⟩
  have HK := Lib.hid (And.intro hb0 (And.intro k0 (And.intro k1 (And.intro k2 k3))))
  have c0 : w0.cell? ⟨B, 0, none⟩ = some (.int .i64 gk) := by rw [← hB]; exact k0.cell 0
  have c1 : w0.cell? ⟨B, 1, none⟩ = some (.int .i64 ga) := by rw [← hB]; exact k0.cell 1
  have c2 : w0.cell? ⟨B, 2, none⟩ = some (.int .i64 gb) := by rw [← hB]; exact k0.cell 2
  have c3 : w0.cell? ⟨B, 3, none⟩ = some (.slice gao gn gc) := by rw [← hB]; exact k0.cell 3
  rw [hsh] at HCHK ⊢
  rw [hw0] at HCHK c0 c1 c2 c3
  have HW0 := Lib.hid hw0
  have HV := Lib.hid (And.intro hv (And.intro hr (And.intro hn (And.intro hl hat))))
  have HS0 := Lib.hid hs0
  clear hb0 k0 k1 k2 k3 hw0 hv0 hv hat hr hn hl hs0
  go_enter_defers Tryz.func58, Tryz.ntmps58
  go_wp2_with fail
  refine HCHK.out.mono ?_
  clear HCHK
  rintro e w1 ⟨rfl, hb1⟩
  rw [← HW0.out] at hb1
  have hb1' := HK.out.1.trans (hb1.mono HK.out.1.size)
  obtain ⟨w2, hw2⟩ : ∃ w2, w2 = w1.alloc (.cells #[.int .i64 0] 3) := ⟨_, rfl⟩
  have hsz1 := hb1.size
  have hs2 : w2.heap.size = w1.heap.size + 1 := by rw [hw2]; simp
  have hb2 : Below w1.heap.size w1 w2 := by rw [hw2]; exact (Below.refl _ _).alloc (Nat.le_refl _) _
  have hb2' : Below w.heap.size w w2 := hb1'.trans (hb2.mono hb1'.size)
  have kp : Blk w2 w1.heap.size 3 #[.int .i64 0] := by rw [hw2]; exact Blk.new w1 3 #[.int .i64 0]
  have e0' : w1.cell? ⟨w.heap.size, 0, none⟩ = some (.int .i64 gk) := (HK.out.2.1.below hb1).cell 0
  have e1' : w1.cell? ⟨w.heap.size, 1, none⟩ = some (.int .i64 ga) := (HK.out.2.1.below hb1).cell 1
  have e2' : w1.cell? ⟨w.heap.size, 2, none⟩ = some (.int .i64 gb) := (HK.out.2.1.below hb1).cell 2
  have e3' : w1.cell? ⟨w.heap.size, 3, none⟩ = some (.slice gao gn gc) := (HK.out.2.1.below hb1).cell 3
  rw [hB] at e0' e1' e2' e3'
  have k0 := (HK.out.2.1.below hb1).below hb2
  have k1 := (HK.out.2.2.1.below hb1).below hb2
  have k2 := (HK.out.2.2.2.1.below hb1).below hb2
  have k3 := (HK.out.2.2.2.2.below hb1).below hb2
  rw [hB] at k0 k1 k2 k3
  have hs0 := HS0.out
  rw [hB] at hs0
  obtain ⟨P, hP⟩ : ∃ P, w1.heap.size = P := ⟨_, rfl⟩
  rw [hP] at hs2 hsz1 kp hb2
  have hPB : w.heap.size ≤ P := by omega
  have hC := rep_does ts ao n c P (B + 1) w hPB (by omega) HV.out.2.2.1 HV.out.2.2.2.1 HV.out.2.2.2.2
  have hmade := made_any (repC ts ao n c P (B + 1) w hPB) hC g v HV.out.2.1 0 w2 ⟨kp, k1, fun k hk => hb2'.block k hk, Nat.zero_le _⟩ (Nat.le_refl _) (HV.out.1.on hb2') (fun nn gb' h hk => by
    have hv := HV.out.1
    have hlt : gb' < w.heap.size := by
      cases g with
      | int a b => rw [show v = intG a b from hv] at h; cases h
      | many n' a b =>
        obtain ⟨gb2, h1, h2⟩ := hv
        rw [h1] at h
        cases h
        exact h2.lt
    rcases hk with rfl | rfl <;> omega)
  have HMADE := Lib.hid (show Calls Tryz.prog 86 #[.func (.func 85) #[] #[.pointer (some ⟨P, 0, none⟩), .pointer (some ⟨B + 1, 0, none⟩)], v] w2 _ from hmade)
  have HK2 := Lib.hid (And.intro k2 (And.intro k3 hb2'))
  rw [hsh] at HMADE
  have hne1 : P ≠ B := by omega
  have hne2 : B ≠ P := by omega
  have c0' : w2.cell? ⟨B, 0, none⟩ = some (.int .i64 gk) := k0.cell 0
  have c1' : w2.cell? ⟨B, 1, none⟩ = some (.int .i64 ga) := k0.cell 1
  have c2' : w2.cell? ⟨B, 2, none⟩ = some (.int .i64 gb) := k0.cell 2
  have c3' : w2.cell? ⟨B, 3, none⟩ = some (.slice gao gn gc) := k0.cell 3
  rw [hw2] at HMADE c0' c1' c2' c3'
  have HW2 := Lib.hid hw2
  clear hb1 hb1' hb2 hb2' kp k0 k1 k2 k3 hw2 hC hmade c0 c1 c2 c3 HK
  go_wp2_with fail
  refine HMADE.out.mono ?_
  clear HMADE
  rintro e w3 ⟨ht, hhow⟩
  rw [← HW2.out] at ht hhow
  have hnown : ∀ q, q < w1.heap.size → q ≠ B + 1 → ¬ (repC ts ao n c P (B + 1) w hPB).own 0 q := fun q h1 h2 h => by rcases h with h | h <;> omega
  have k2 := HK2.out.1.touch ht (hnown _ (by omega) (by omega))
  have k3 := HK2.out.2.1.touch ht (hnown _ (by omega) (by omega))
  have hB3 : Below w.heap.size w w3 := ((Tch.of_below (S := (repC ts ao n c P (B + 1) w hPB).own 0) HK2.out.2.2).trans ht (fun _ h => .inl h)).below (Nat.le_refl _) (fun q h => by rcases h with h | h <;> omega)
  have hs3 := ht.size
  have d0 : w3.cell? ⟨B + 2, 0, none⟩ = some (.bool false) := k2.cell 0
  have d1 : w3.cell? ⟨B + 2, 1, none⟩ = some (.int .i64 0) := k2.cell 1
  have d2 : w3.cell? ⟨B + 2, 2, none⟩ = some (.slice none 0 0) := k2.cell 2
  have d3 : w3.cell? ⟨B + 3, 0, none⟩ = some .nilIface := k3.cell 0
  have f0 := k2.froz 0
  have f1 := k2.froz 1
  have f2 := k2.froz 2
  have f3 := k3.froz 0
  have HREP := Lib.hid (rep_play ts ao n c P (B + 1) w hPB g)
  have HB3 := Lib.hid hB3
  have HK3 := Lib.hid (And.intro k2 k3)
  clear hB3 k2 k3 ht HK2 e0' e1' e2' e3' c0' c1' c2' c3' hnown
  rcases hhow with ⟨x, t, v3, hp, rfl, hval, hfar, hI, ho⟩ | ⟨cc, hp, rfl⟩
  · replace hp : (repC ts ao n c P (B + 1) w hPB).play g 0 = .ok (x, t) := hp
    obtain ⟨vk, vz, vao, vn, vc, rfl⟩ := hval.shape
    have HVAL := Lib.hid (And.intro hp (And.intro hval hI))
    have g0 : w3.cell? ⟨P, 0, none⟩ = some (.int .i64 (t : Int)) := hI.1.cell 0
    have g1 : w3.cell? ⟨B + 1, 0, none⟩ = some (.slice ao n c) := hI.2.1.cell 0
    have htl : t ≤ ts.length := hI.2.2.2
    have htn := HV.out.2.2.1
    clear hp hval hfar hI ho
    by_cases htt : (t : Int) < (n : Int)
    · have HE := Lib.hid (show replay g ts = .error 3 by rw [HREP.out, HVAL.out.1]; simp only; rw [if_neg (by omega)])
      go_wp2_with fail
      refine leaves_cons (f := 84) (args := #[.pointer (some ⟨B + 1 + 1, 0, none⟩), .pointer (some ⟨B + 1 + 1 + 1, 0, none⟩)]) (by simp) (by simp [go_sem]) ?_
      refine (catch_idle _ _ _).mono ?_
      rintro e u' w'' ⟨rfl, rfl, hw⟩
      have q2 : Blk w'' (B + 2) 53 #[.bool false, .int .i64 0, .slice none 0 0] := by rw [hw]; exact ((((((HK3.out.1.set 0 _).set 1 _).set 2 _).set 0 _).set 1 _).set 2 _).other _ _ (by omega) _
      have q3 : Blk w'' (B + 3) 100 #[.iface 36 (.int .i64 3)] := by rw [hw]; exact ((((((HK3.out.2.other _ _ (by omega) _).other _ _ (by omega) _).other _ _ (by omega) _).other _ _ (by omega) _).other _ _ (by omega) _).other _ _ (by omega) _).set 0 _
      have hother : ∀ q, q ≠ B + 2 → q ≠ B + 3 → w''.heap[q]? = w3.heap[q]? := fun q n2 n3 => by
        rw [hw, Below.heap_setCell _ _ _ _ n3, Below.heap_setCell _ _ _ _ n2, Below.heap_setCell _ _ _ _ n2, Below.heap_setCell _ _ _ _ n2, Below.heap_setCell _ _ _ _ n2, Below.heap_setCell _ _ _ _ n2, Below.heap_setCell _ _ _ _ n2]
      have HBW := Lib.hid (show Below w.heap.size w w'' by rw [hw]; exact ((((((HB3.out.setCell (by simp; omega) _).setCell (by simp; omega) _).setCell (by simp; omega) _).setCell (by simp; omega) _).setCell (by simp; omega) _).setCell (by simp; omega) _).setCell (by simp; omega) _)
      clear hw
      have h0 := q2.cell 0
      have h1 := q2.cell 1
      have h2 := q2.cell 2
      have h3 := q3.cell 0
      simp at h0 h1 h2 h3
      simp [Leaves, settle, results, Tryz.results58, go_sem, Nat.add_assoc, h0, h1, h2, h3]
      exact ⟨HBW.out, .inr ⟨3, HE.out, rfl⟩⟩
    · have HE := Lib.hid (show replay g ts = .ok x by rw [HREP.out, HVAL.out.1]; simp only; rw [if_pos (by omega)])
      go_wp2_with fail
      refine leaves_cons (f := 84) (args := #[.pointer (some ⟨B + 1 + 1, 0, none⟩), .pointer (some ⟨B + 1 + 1 + 1, 0, none⟩)]) (by simp) (by simp [go_sem]) ?_
      refine (catch_idle _ _ _).mono ?_
      rintro e u' w'' ⟨rfl, rfl, hw⟩
      have q2 : Blk w'' (B + 2) 53 #[.bool vk, .int .i64 vz, .slice vao vn vc] := by rw [hw]; exact ((((((HK3.out.1.set 0 _).set 1 _).set 2 _).set 0 _).set 1 _).set 2 _).other _ _ (by omega) _
      have q3 : Blk w'' (B + 3) 100 #[.nilIface] := by rw [hw]; exact ((((((HK3.out.2.other _ _ (by omega) _).other _ _ (by omega) _).other _ _ (by omega) _).other _ _ (by omega) _).other _ _ (by omega) _).other _ _ (by omega) _).set 0 _
      have hother : ∀ q, q ≠ B + 2 → q ≠ B + 3 → w''.heap[q]? = w3.heap[q]? := fun q n2 n3 => by
        rw [hw, Below.heap_setCell _ _ _ _ n3, Below.heap_setCell _ _ _ _ n2, Below.heap_setCell _ _ _ _ n2, Below.heap_setCell _ _ _ _ n2, Below.heap_setCell _ _ _ _ n2, Below.heap_setCell _ _ _ _ n2, Below.heap_setCell _ _ _ _ n2]
      have HBW := Lib.hid (show Below w.heap.size w w'' by rw [hw]; exact ((((((HB3.out.setCell (by simp; omega) _).setCell (by simp; omega) _).setCell (by simp; omega) _).setCell (by simp; omega) _).setCell (by simp; omega) _).setCell (by simp; omega) _).setCell (by simp; omega) _)
      clear hw
      have h0 := q2.cell 0
      have h1 := q2.cell 1
      have h2 := q2.cell 2
      have h3 := q3.cell 0
      simp at h0 h1 h2 h3
      simp [Leaves, settle, results, Tryz.results58, go_sem, Nat.add_assoc, h0, h1, h2, h3]
      exact ⟨HBW.out, .inl ⟨x, _, HE.out, rfl, (HVAL.out.2.1.same fun g' _ h1 _ => hother g' (by omega) (by omega)).mono (by omega)⟩⟩
  · replace hp : (repC ts ao n c P (B + 1) w hPB).play g 0 = .error cc := hp
    have HE := Lib.hid (show replay g ts = .error cc by rw [HREP.out, hp])
    go_wp2_with fail
    refine leaves_cons (f := 84) (args := #[.pointer (some ⟨B + 1 + 1, 0, none⟩), .pointer (some ⟨B + 1 + 1 + 1, 0, none⟩)]) (by simp) (by simp [go_sem]) ?_
    refine (catch_panicking (B + 2) (B + 3) cc _ _ _ _ _ _ HK3.out.1 HK3.out.2 (by omega)).mono ?_
    rintro e u' w'' ⟨rfl, rfl, rfl⟩
    simp [Leaves, settle, results, Tryz.results58, go_sem, d0, d1, d2, d3]
    exact ⟨(((HB3.out.setCell (by simp; omega) _).setCell (by simp; omega) _).setCell (by simp; omega) _).setCell (by simp; omega) _, .inr ⟨cc, HE.out, rfl⟩⟩
end Go.Proofs.YtalbllijahiiiaaGreatDoor
end

section
namespace Go.Proofs.YtalbllijahiiiaaGreatDoor
open Go.RowKit Go.Mine Go.Mine.Desk

theorem mend_enters (lb : Array Value) (v : Value) (w : World) : Sem.run Tryz.prog (callFunc 116 (#[v] ++ lb)) w = .ok (.enter 116 (#[v] ++ lb)) w := by kernel_rfl
def mendAt (ts out : List Int) (m : Int) : Int := clamp m (ts.getD out.length 0)
def mendC (ts : List Int) (ao : Option Addr) (n c pb tb : Nat) (W : World) (hp : W.heap.size ≤ pb) : Chooser (List Int × Value) (List Int) where
  gf := 116
  caps := #[.pointer (some ⟨pb, 0, none⟩), .pointer (some ⟨tb, 0, none⟩)]
  I s w := Blk w pb 48 #[s.2] ∧ Blk w tb 48 #[.slice ao n c] ∧ w.ownsRow (pb + 1) 3 1 s.2 s.1.length (s.1.map (.int .i64)) ∧ (∀ k, k < W.heap.size → w.heap[k]? = W.heap[k]?) ∧ s.1.length ≤ 100
  own s k := k = pb ∨ k = tb ∨ s.2.ownBlock = some k
  abs s := s.1
  step out m := .ok (mendAt ts out m, out ++ [mendAt ts out m])
  lo := W.heap.size
  room s := 100 - s.1.length
  keep s w w' h h1 h2 := ⟨h.1.same (h1 pb (.inl rfl)), h.2.1.same (h1 tb (.inr (.inl rfl))), owns_same h.2.2.1 fun g hg => h1 g (.inr (.inr hg)), fun k hk => (h2 k hk).trans (h.2.2.2.1 k hk), h.2.2.2.2⟩
  low s w h := by have := h.1.lt; omega
  lt s w k h hk := by
    rcases hk with rfl | rfl | hk
    · exact h.1.lt
    · exact h.2.1.lt
    · exact (h.2.2.1.lt k hk).2
  enters := mend_enters _
theorem mend_next {ts out : List Int} {ao : Option Addr} {n c pb tb : Nat} {W : World} (hp : W.heap.size ≤ pb) (hpt : tb < pb) {u : Value} {w w7 : World} {x : Int} {g cap : Nat} {cs : Array Value}
    (hI : (mendC ts ao n c pb tb W hp).I (out, u) w) (hrm : out.length < 100) (hown : w7.ownsRow (pb + 1) 3 1 (.slice (some ⟨g, 0, none⟩) (out.length + 1) cap) (out.length + 1) (out.map (.int .i64) ++ [.int .i64 x])) (hgr : (w.alloc (.cells cs 3)).grownBy w7 u.ownBlock) (hat : u.ownBlock = some g ∨ g = w.heap.size + 1) (hw : W.heap.size ≤ tb) :
    Tch ((mendC ts ao n c pb tb W hp).own (out, u)) w (w7.setCell ⟨pb, 0, none⟩ (.slice (some ⟨g, 0, none⟩) (out.length + 1) cap)) ∧
    (mendC ts ao n c pb tb W hp).I (out ++ [x], .slice (some ⟨g, 0, none⟩) (out.length + 1) cap) (w7.setCell ⟨pb, 0, none⟩ (.slice (some ⟨g, 0, none⟩) (out.length + 1) cap)) ∧
    ∀ k, (mendC ts ao n c pb tb W hp).own (out ++ [x], .slice (some ⟨g, 0, none⟩) (out.length + 1) cap) k → (mendC ts ao n c pb tb W hp).own (out, u) k ∨ w.heap.size ≤ k := by
  obtain ⟨k0, k1, k2, k3, k4⟩ := hI
  have hl0 := k0.lt
  have hlt := k2.lt
  have hb : ∀ k, k < w.heap.size → u.ownBlock ≠ some k → w7.heap[k]? = w.heap[k]? := fun k hk hn => by
    rw [hgr.block k (by simp; omega) (fun e => hn e.symm), Below.heap_alloc w _ k hk]
  have hP : ∀ k, k ≤ pb → u.ownBlock ≠ some k := fun k hk e => by have := (hlt k e).1; omega
  have hg : g ≠ pb := by
    rcases hat with h | h
    · have := (hlt g h).1; omega
    · omega
  refine ⟨?_, ⟨(k0.same (hb _ hl0 (hP _ (Nat.le_refl _)))).set 0 _, (k1.same (hb _ k1.lt (hP _ (by omega)))).other _ _ (by omega) _, ?_, fun k hk => ?_, by simp; omega⟩, fun k hk => ?_⟩
  · exact (((Tch.refl _ w).alloc (.cells cs 3)).grown hgr fun k hk => .inl (.inr (.inr hk))).set (.inl (.inl rfl)) _
  · rw [List.length_append, List.map_append]
    exact owns_same hown fun g' hg' => by cases hg'; exact Below.heap_setCell _ _ _ _ hg
  · rw [Below.heap_setCell _ _ _ _ (by show k ≠ pb; omega), hb k (by omega) (hP k (by omega))]
    exact k3 k hk
  · rcases hk with rfl | rfl | hk
    · exact .inl (.inl rfl)
    · exact .inl (.inr (.inl rfl))
    · cases hk
      rcases hat with h | h
      · exact .inl (.inr (.inr h))
      · refine .inr ?_
        show w.heap.size ≤ g
        omega
theorem infoI3d : (Tryz.prog.info? 3).map (fun i => (i.zero, i.size, i.bytes)) = some (some (.int .i64 0), 1, 8) := by kernel_rfl
set_option maxRecDepth 100000 in
set_option maxHeartbeats 1000000 in
theorem mend_does (ts : List Int) (ao : Option Addr) (n c pb tb : Nat) (W : World) (hp : W.heap.size ≤ pb) (hpt : tb < pb) (hw : W.heap.size ≤ tb) (hn : ts.length = n) (hl : n ≤ maxLen) (hat : IntsAt .i64 W ao ts) : (mendC ts ao n c pb tb W hp).Does := by
  rintro ⟨out, u⟩ w m hI hrm hm0 hm1
  replace hrm : out.length < 100 := by have : 0 < 100 - out.length := hrm; omega
  show Calls Tryz.prog 116 #[.int .i64 m, .pointer (some ⟨pb, 0, none⟩), .pointer (some ⟨tb, 0, none⟩)] w _
  have hl' : n ≤ 9223372036854775807 := by unfold maxLen at hl; omega
  obtain ⟨k0, k1, k2, k3, k4⟩ := id hI
  replace k2 : w.ownsRow (pb + 1) 3 1 u out.length (out.map (.int .i64)) := k2
  obtain ⟨uo, ucap, rfl⟩ := owns_shape k2
  have c0 : w.cell? ⟨pb, 0, none⟩ = some (.slice uo out.length ucap) := k0.cell 0
  have c1 : w.cell? ⟨tb, 0, none⟩ = some (.slice ao n c) := k1.cell 0
  have f0 : w.frozen? ⟨pb, 0, none⟩ = false := k0.froz 0
  have HI := Lib.hid hI
  have HROW := Lib.hid k2
  have HLT := Lib.hid k0.lt
  obtain ⟨i0, hi0, hz0, hz1, hz2⟩ := info_parts infoI3d
  have hL99 : out.length < 100 := by omega
  have HIN := Lib.hid (fun (w7 : World) (x : Int) (g cap : Nat) h1 h2 h3 => mend_next (ts := ts) (x := x) (w7 := w7) (g := g) (cap := cap) (cs := #[.int .i64 x]) hp hpt hI hrm h1 h2 h3 hw)
  have HX := Lib.hid (show mendAt ts out m = clamp m (ts.getD out.length 0) from rfl)
  clear hI k0 k1 k2
  rcases Nat.lt_or_ge out.length n with hLn | hLn
  · obtain ⟨b, o, rfl, hx⟩ := hat out.length (by omega)
    have hxw : w.cell? ⟨b, o + out.length, none⟩ = some (.int .i64 (ts.getD out.length 0)) := by
      have hb := World.block_lt_of_cell? W _ hx
      rw [← hx]; exact World.cell?_of_block (k3 b hb)
    obtain ⟨x, hxe⟩ : ∃ x, ts.getD out.length 0 = x := ⟨_, rfl⟩
    rw [hxe] at hxw HX
    have hi0' : (0 : Int) ≤ (out.length : Int) := by omega
    have hi1 : (out.length : Int) < (n : Int) := by omega
    clear k3 k4 hat hx hxe
    obtain ⟨y, hy⟩ : ∃ y, max 0 (min x m) = y := ⟨_, rfl⟩
    have HY := Lib.hid (show clamp m x = y from hy)
    have hy0 : 0 ≤ y ∧ y ≤ m := by omega
    go_enter Tryz.func116, Tryz.ntmps116
    go_wp2_with (at_builtin; refine wpList_push2 _ rfl _ _ 48 rfl (pb + 1) 3 i0 (.int .i64 0) 1 8 Tryz.underlying48 hi0 hz0 hz1 hz2 rfl (by decide) _ _ _ rfl (HROW.out.alloc _) ⟨w.heap.size, 0, none⟩ 1 [.int .i64 y] rfl rfl (World.news_of_block (cs := #[.int .i64 y]) (t := 3) (fr := (0, 0)) (heap_alloc_at _ _ rfl)) (one1 _ _) (by unfold maxLen; omega) (by omega) (by have := HLT.out; simp; omega) ?_)
    intro g cap w7 hown hgr hat
    have hb7 : w7.heap[pb]? = w.heap[pb]? := by
      rw [hgr.block pb (by have := HLT.out; simp; omega) (fun e => by have := (HROW.out.lt pb e.symm).1; omega), Below.heap_alloc w _ pb HLT.out]
    have e0 : w7.cell? ⟨pb, 0, none⟩ = some (.slice uo out.length ucap) := (World.cell?_of_block (a := ⟨pb, 0, none⟩) hb7).trans c0
    have e1 : w7.frozen? ⟨pb, 0, none⟩ = false := (World.frozen?_of_block (a := ⟨pb, 0, none⟩) hb7).trans f0
    have HN := Lib.hid (HIN.out w7 _ g cap hown hgr hat)
    clear hown hgr hat hb7
    go_wp2_with fail
    go_ret
    refine ⟨HN.out.1, .inl ⟨y, (out ++ [y], _), ?_, by omega, by omega, rfl, HN.out.2.1, ?_, HN.out.2.2⟩⟩
    · show Except.ok (mendAt ts out m, out ++ [mendAt ts out m]) = _
      rw [HX.out, HY.out]
      rfl
    · show 100 - out.length ≤ 100 - (out ++ [y]).length + 1
      simp; omega
  · have hx0 : ts.getD out.length 0 = 0 := by simp [show ts.length ≤ out.length by omega]
    have hy : clamp m 0 = 0 := by unfold clamp; omega
    have hi1 : ¬ (out.length : Int) < (n : Int) := by omega
    clear k3 k4 hat
    go_enter Tryz.func116, Tryz.ntmps116
    go_wp2_with (at_builtin; refine wpList_push2 _ rfl _ _ 48 rfl (pb + 1) 3 i0 (.int .i64 0) 1 8 Tryz.underlying48 hi0 hz0 hz1 hz2 rfl (by decide) _ _ _ rfl (HROW.out.alloc _) ⟨w.heap.size, 0, none⟩ 1 [.int .i64 0] rfl rfl (World.news_of_block (cs := #[.int .i64 0]) (t := 3) (fr := (0, 0)) (heap_alloc_at _ _ rfl)) (one1 _ _) (by unfold maxLen; omega) (by omega) (by have := HLT.out; simp; omega) ?_)
    intro g cap w7 hown hgr hat
    have hb7 : w7.heap[pb]? = w.heap[pb]? := by
      rw [hgr.block pb (by have := HLT.out; simp; omega) (fun e => by have := (HROW.out.lt pb e.symm).1; omega), Below.heap_alloc w _ pb HLT.out]
    have e0 : w7.cell? ⟨pb, 0, none⟩ = some (.slice uo out.length ucap) := (World.cell?_of_block (a := ⟨pb, 0, none⟩) hb7).trans c0
    have e1 : w7.frozen? ⟨pb, 0, none⟩ = false := (World.frozen?_of_block (a := ⟨pb, 0, none⟩) hb7).trans f0
    have HN := Lib.hid (HIN.out w7 _ g cap hown hgr hat)
    clear hown hgr hat hb7
    go_wp2_with fail
    go_ret
    refine ⟨HN.out.1, .inl ⟨(0 : Int), (out ++ [(0 : Int)], _), ?_, by omega, by omega, rfl, HN.out.2.1, ?_, HN.out.2.2⟩⟩
    · show Except.ok (mendAt ts out m, out ++ [mendAt ts out m]) = _
      rw [HX.out, hx0, hy]
      rfl
    · show 100 - out.length ≤ 100 - (out ++ [(0 : Int)]).length + 1
      simp; omega

/-! What is mended, plainly. -/
theorem mend_many (ts : List Int) (ao : Option Addr) (n c pb tb : Nat) (W : World) (hp : W.heap.size ≤ pb) (m : Int) (out : List Int) : ∀ k, (mendC ts ao n c pb tb W hp).many m k out = .ok ((List.range k).map fun i => clamp m (ts.getD (out.length + i) 0), out ++ (List.range k).map fun i => clamp m (ts.getD (out.length + i) 0))
  | 0 => by simp [Chooser.many]
  | k + 1 => by
    rw [Chooser.many, mend_many ts ao n c pb tb W hp m out k]
    simp only [show (mendC ts ao n c pb tb W hp).step = fun out m => .ok (mendAt ts out m, out ++ [mendAt ts out m]) from rfl]
    rw [List.range_succ, List.map_append, List.map_cons, List.map_nil]
    simp [mendAt]
theorem mend_play (ts : List Int) (ao : Option Addr) (n c pb tb : Nat) (W : World) (hp : W.heap.size ≤ pb) (g : G) : ∃ x, (mendC ts ao n c pb tb W hp).play g [] = .ok (x, mend g ts) := by
  have hs : (mendC ts ao n c pb tb W hp).step = fun out m => .ok (mendAt ts out m, out ++ [mendAt ts out m]) := rfl
  cases g with
  | int a b => exact ⟨_, by simp only [Chooser.play, hs]; rfl⟩
  | many k a b =>
    simp only [Chooser.play, hs, mend_many]
    refine ⟨V.list (((List.range (mendAt ts [] k).toNat).map fun i => clamp (b - a) (ts.getD (([] ++ [mendAt ts [] k] : List Int).length + i) 0)).map (a + ·)), ?_⟩
    simp [mendAt, mend, Nat.add_comm]
def MendPost (g : G) (ts : List Int) (w : World) (e : Ending) (w' : World) : Prop :=
  Below w.heap.size w w' ∧ ∃ u, e = .returned (.tuple #[u, .nilIface]) ∧ w'.ownsRow w.heap.size 3 1 u (mend g ts).length ((mend g ts).map (.int .i64))
set_option maxRecDepth 100000 in
set_option maxHeartbeats 2000000 in
theorem mend_any (g : G) (v : Value) (hr : g.right) (ts : List Int) (ao : Option Addr) (n c : Nat) (hn : ts.length = n) (hl : n ≤ maxLen) (w : World) (hv : GenAt w v g) (hat : IntsAt .i64 w ao ts) :
    Calls Tryz.prog 89 #[v, .slice ao n c] w (MendPost g ts w) := by
  obtain ⟨gk, ga, gb, gao, gn, gc, hsh⟩ := hv.shape
  obtain ⟨w0, hw0⟩ : ∃ w0, w0 = (w.alloc (.cells #[.int .i64 gk, .int .i64 ga, .int .i64 gb, .slice gao gn gc] 28)).alloc (.cells #[.slice ao n c] 48) := ⟨_, rfl⟩
  have hs0 : w0.heap.size = w.heap.size + 2 := by rw [hw0]; simp
  have hb0 : Below w.heap.size w w0 := by rw [hw0]; exact ((Below.refl w.heap.size w).alloc (Nat.le_refl _) _).alloc (by simp) _
  have k0 : Blk w0 w.heap.size 28 #[.int .i64 gk, .int .i64 ga, .int .i64 gb, .slice gao gn gc] := by rw [hw0]; exact (Blk.new _ _ _).alloc _
  have k1 : Blk w0 (w.heap.size + 1) 48 #[.slice ao n c] := by rw [hw0]; have := Blk.new (w.alloc (.cells #[.int .i64 gk, .int .i64 ga, .int .i64 gb, .slice gao gn gc] 28)) 48 #[.slice ao n c]; simpa using this
  have HCHK := Lib.hid (checkR_any g v hr w0 (hv.on hb0))
  obtain ⟨B, hB⟩ : ∃ B, w.heap.size = B := ⟨_, rfl⟩
  have HK := Lib.hid (And.intro hb0 (And.intro k0 k1))
  have c0 : w0.cell? ⟨B, 0, none⟩ = some (.int .i64 gk) := by rw [← hB]; exact k0.cell 0
  have c1 : w0.cell? ⟨B, 1, none⟩ = some (.int .i64 ga) := by rw [← hB]; exact k0.cell 1
  have c2 : w0.cell? ⟨B, 2, none⟩ = some (.int .i64 gb) := by rw [← hB]; exact k0.cell 2
  have c3 : w0.cell? ⟨B, 3, none⟩ = some (.slice gao gn gc) := by rw [← hB]; exact k0.cell 3
  rw [hsh] at HCHK ⊢
  rw [hw0] at HCHK c0 c1 c2 c3
  have HW0 := Lib.hid hw0
  have HV := Lib.hid (And.intro hv (And.intro hr (And.intro hn (And.intro hl hat))))
  have HS0 := Lib.hid hs0
  clear hb0 k0 k1 hw0 hv hat hr hn hl hs0
  go_enter Tryz.func89, Tryz.ntmps89
  go_wp2_with fail
  refine HCHK.out.mono ?_
  clear HCHK
  rintro e w1 ⟨rfl, hb1⟩
  rw [← HW0.out] at hb1
  have hb1' := HK.out.1.trans (hb1.mono HK.out.1.size)
  obtain ⟨w2, hw2⟩ : ∃ w2, w2 = w1.alloc (.cells #[.slice none 0 0] 48) := ⟨_, rfl⟩
  have hsz1 := hb1.size
  have hs2 : w2.heap.size = w1.heap.size + 1 := by rw [hw2]; simp
  have hb2 : Below w1.heap.size w1 w2 := by rw [hw2]; exact (Below.refl _ _).alloc (Nat.le_refl _) _
  have hb2' : Below w.heap.size w w2 := hb1'.trans (hb2.mono hb1'.size)
  have kp : Blk w2 w1.heap.size 48 #[.slice none 0 0] := by rw [hw2]; exact Blk.new w1 48 #[.slice none 0 0]
  have k0 := (HK.out.2.1.below hb1).below hb2
  have k1 := (HK.out.2.2.below hb1).below hb2
  rw [hB] at k0 k1
  have hs0 := HS0.out
  rw [hB] at hs0
  obtain ⟨P, hP⟩ : ∃ P, w1.heap.size = P := ⟨_, rfl⟩
  rw [hP] at hs2 hsz1 kp hb2
  have hPB : w.heap.size ≤ P := by omega
  have hC := mend_does ts ao n c P (B + 1) w hPB (by omega) (by omega) HV.out.2.2.1 HV.out.2.2.2.1 HV.out.2.2.2.2
  have hmade := made_any (mendC ts ao n c P (B + 1) w hPB) hC g v HV.out.2.1 ([], .slice none 0 0) w2 ⟨kp, k1, World.ownsRow_nil _ _ _ _, fun k hk => hb2'.block k hk, Nat.zero_le _⟩ (by show 6 ≤ 100 - 0; omega) (HV.out.1.on hb2') (fun nn gb' h hk => by
    have hv := HV.out.1
    have hlt : gb' < w.heap.size := by
      cases g with
      | int a b => rw [show v = intG a b from hv] at h; cases h
      | many n' a b =>
        obtain ⟨gb2, h1, h2⟩ := hv
        rw [h1] at h
        cases h
        exact h2.lt
    rcases hk with rfl | rfl | hk
    · omega
    · omega
    · cases hk)
  have HMADE := Lib.hid (show Calls Tryz.prog 86 #[.func (.func 116) #[] #[.pointer (some ⟨P, 0, none⟩), .pointer (some ⟨B + 1, 0, none⟩)], v] w2 _ from hmade)
  have HK2 := Lib.hid hb2'
  rw [hsh] at HMADE
  have c0' : w2.cell? ⟨B, 0, none⟩ = some (.int .i64 gk) := k0.cell 0
  have c1' : w2.cell? ⟨B, 1, none⟩ = some (.int .i64 ga) := k0.cell 1
  have c2' : w2.cell? ⟨B, 2, none⟩ = some (.int .i64 gb) := k0.cell 2
  have c3' : w2.cell? ⟨B, 3, none⟩ = some (.slice gao gn gc) := k0.cell 3
  rw [hw2] at HMADE c0' c1' c2' c3'
  have HW2 := Lib.hid hw2
  clear hb1 hb1' hb2 hb2' kp k0 k1 hw2 hC hmade c0 c1 c2 c3 HK
  go_wp2_with fail
  refine HMADE.out.mono ?_
  clear HMADE
  rintro e w3 ⟨ht, hhow⟩
  rw [← HW2.out] at ht hhow
  have hB3 : Below w.heap.size w w3 := ((Tch.of_below (S := (mendC ts ao n c P (B + 1) w hPB).own ([], .slice none 0 0)) HK2.out).trans ht (fun _ h => .inl h)).below (Nat.le_refl _) (fun q h => by rcases h with h | h | h; omega; omega; cases h)
  obtain ⟨x0, hx0⟩ := mend_play ts ao n c P (B + 1) w hPB g
  rcases hhow with ⟨x, t, v3, hp, rfl, hval, hfar, hI, ho⟩ | ⟨cc, hp, rfl⟩
  · replace hp : (mendC ts ao n c P (B + 1) w hPB).play g [] = .ok (x, t.1) := hp
    rw [hx0] at hp
    obtain ⟨out, u⟩ := t
    simp only [Except.ok.injEq, Prod.mk.injEq] at hp
    obtain ⟨rfl, rfl⟩ := hp
    have g0 : w3.cell? ⟨P, 0, none⟩ = some u := hI.1.cell 0
    have HI := Lib.hid hI.2.2.1
    have HB3 := Lib.hid hB3
    clear hval hfar hI ho ht hB3
    go_wp2_with fail
    go_ret2
    exact ⟨HB3.out, u, rfl, HI.out.mono (by omega)⟩
  · replace hp : (mendC ts ao n c P (B + 1) w hPB).play g [] = .error cc := hp
    rw [hx0] at hp
    cases hp
end Go.Proofs.YtalbllijahiiiaaGreatDoor
end
