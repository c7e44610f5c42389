/- tape.Parse. strings.Split at one byte; desk.choices. -/
import Derived.Test.YtalbllijahiiiaaGreatDoorDkAO
import Derived.Test.YtalbllijahiiiaaGreatDoorDkAK
import Derived.Deep.RegionHeld3
import Derived.Lib.SplitLaws
section
namespace Go.Proofs.YtalbllijahiiiaaGreatDoor
open Go.RowKit Go.Mine Go.Mine.Desk

def ParsePost (s : Bytes) (w : World) (e : Ending) (w' : World) : Prop :=
  Below w.heap.size w w' ∧ ((∃ l uo uc, tapeV s = some l ∧ e = .returned (.tuple #[.slice uo l.length uc, .nilIface]) ∧ IntsAt .i64 w' uo l ∧ l.length ≤ s.length + 1) ∨
    (tapeV s = none ∧ e = .returned (.tuple #[.slice none 0 0, .iface 36 (.int .i64 3)])))
theorem PI.put {w : World} {s rest : Bytes} {zs : List Int} {B C : Nat} {W : World} (h : PI w s rest zs B C W) (hB : w.heap.size ≤ B) (hC : C = B + 4) {r : Loop} (hr : W.heap[C + 4]? = some (.loop r)) (o : Obj) : PI w s rest zs B C (W.putObj (C + 4) o) where
  below := h.below.trans (belowK_b (w := w) (Nat.le_refl _) W (C + 4) _ o (by omega) hr rfl rfl)
  k0 := h.k0.same (World.putObj_heap_other (by omega))
  k1 := h.k1.same (World.putObj_heap_other (by omega))
  k2 := h.k2.same (World.putObj_heap_other (by omega))
  k3 := by
    obtain ⟨v, h1, h2⟩ := h.k3
    exact ⟨v, h1.same (World.putObj_heap_other (by omega)), owns_block h2 fun g hg _ => World.putObj_heap_other (by omega)⟩
  c0 := h.c0.same (World.putObj_heap_other (by omega))
  c1 := h.c1.same (World.putObj_heap_other (by omega))
  c2 := h.c2.same (World.putObj_heap_other (by omega))
  kd := (World.putObj_heap_other (by omega)).trans h.kd
theorem PR.put {w : World} {s : Bytes} {B C : Nat} {W : World} (h : PR w s B C W) (hB : w.heap.size ≤ B) (hC : C = B + 4) {r : Loop} (hr : W.heap[C + 4]? = some (.loop r)) (o : Obj) : PR w s B C (W.putObj (C + 4) o) where
  below := h.below.trans (belowK_b (w := w) (Nat.le_refl _) W (C + 4) _ o (by omega) hr rfl rfl)
  k1 := h.k1.same (World.putObj_heap_other (by omega))
  k2 := h.k2.same (World.putObj_heap_other (by omega))
  kd := (World.putObj_heap_other (by omega)).trans h.kd
theorem PI.later {w : World} {s rest : Bytes} {zs : List Int} {B C : Nat} {W W' : World} (h : PI w s rest zs B C W) (hb : Below W.heap.size W W') : PI w s rest zs B C W' where
  below := h.below.trans (hb.mono h.below.size)
  k0 := h.k0.below hb
  k1 := h.k1.below hb
  k2 := h.k2.below hb
  k3 := by
    obtain ⟨v, h1, h2⟩ := h.k3
    exact ⟨v, h1.below hb, owns_below h2 hb⟩
  c0 := h.c0.below hb
  c1 := h.c1.below hb
  c2 := h.c2.below hb
  kd := (hb.block _ (Array.getElem?_eq_some_iff.1 h.kd).1).trans h.kd
theorem PI.push {w : World} {s rest : Bytes} {zs : List Int} {B C : Nat} {W W7 : World} {z : Int} {v : Value} {g cap : Nat} {o : Obj} (h : PI w s rest zs B C W) (hB : w.heap.size ≤ B) (hC : C = B + 4) (hv : Blk W (B + 1 + 1 + 1) 48 #[v]) (ho : W.ownsRow (C + 5) 3 1 v zs.length (zs.map (.int .i64)))
    (hgr : (W.alloc o).grownBy W7 v.ownBlock) (hown : W7.ownsRow (C + 5) 3 1 (.slice (some ⟨g, 0, none⟩) (zs.length + 1) cap) (zs.length + 1) (zs.map (.int .i64) ++ [.int .i64 z])) :
    Blk W7 (B + 1 + 1 + 1) 48 #[v] ∧ PI w s rest (zs ++ [z]) B C (W7.setCell ⟨B + 1 + 1 + 1, 0, none⟩ (.slice (some ⟨g, 0, none⟩) (zs.length + 1) cap)) ∧ ∀ k, k < C + 5 → k < W.heap.size → W7.heap[k]? = W.heap[k]? := by
  have hlow : ∀ k, k < C + 5 → k < W.heap.size → W7.heap[k]? = W.heap[k]? := fun k hk hk2 => by
    rw [hgr.block k (by simp; omega) (fun e => by have := (ho.lt k e.symm).1; omega), Below.heap_alloc W o k hk2]
  have hs : ∀ {k : Nat} {T : TypeId} {cs : Array Value}, Blk W k T cs → k < C + 5 → Blk W7 k T cs := fun hk hlt => hk.same (hlow _ hlt hk.lt)
  have hset : ∀ k, k ≠ B + 1 + 1 + 1 → (W7.setCell ⟨B + 1 + 1 + 1, 0, none⟩ (.slice (some ⟨g, 0, none⟩) (zs.length + 1) cap)).heap[k]? = W7.heap[k]? := fun k hk => Below.heap_setCell W7 ⟨B + 1 + 1 + 1, 0, none⟩ _ k hk
  have h3 := hs hv (by omega)
  refine ⟨h3, ?_, hlow⟩
  exact {
    below := ((h.below.alloc h.below.size o).grown hgr (by have := h.below.size; simp; omega) (fun q hq => by have := (ho.lt q hq).1; omega)).setCell (by simp; omega) _
    k0 := (hs h.k0 (by omega)).same (hset _ (by omega))
    k1 := (hs h.k1 (by omega)).same (hset _ (by omega))
    k2 := (hs h.k2 (by omega)).same (hset _ (by omega))
    k3 := ⟨_, by simpa using h3.set 0 (.slice (some ⟨g, 0, none⟩) (zs.length + 1) cap), by
      rw [List.length_append, List.map_append]
      exact owns_block hown fun q hq _ => hset q (by omega)⟩
    c0 := (hs h.c0 (by omega)).same (hset _ (by omega))
    c1 := (hs h.c1 (by omega)).same (hset _ (by omega))
    c2 := (hs h.c2 (by omega)).same (hset _ (by omega))
    kd := ((hset _ (by omega)).trans (hlow _ (by omega) (Array.getElem?_eq_some_iff.1 h.kd).1)).trans h.kd }
theorem PI.fail {w : World} {s rest : Bytes} {zs : List Int} {B C : Nat} {W : World} (h : PI w s rest zs B C W) (hB : w.heap.size ≤ B) (hC : C = B + 4) :
    PR w s B C ((W.setCell ⟨B + 1, 0, none⟩ (.slice none 0 0)).setCell ⟨B + 1 + 1, 0, none⟩ (.iface 36 (.int .i64 3))) where
  below := (h.below.setCell (by simp; omega) _).setCell (by simp; omega) _
  k1 := by simpa using (h.k1.set 0 (.slice none 0 0)).other (B + 1 + 1) 0 (by omega) (.iface 36 (.int .i64 3))
  k2 := by simpa using (h.k2.other (B + 1) 0 (by omega) (.slice none 0 0)).set 0 (.iface 36 (.int .i64 3))
  kd := ((Below.heap_setCell _ ⟨B + 1 + 1, 0, none⟩ _ (C + 3) (by simp; omega)).trans (Below.heap_setCell _ ⟨B + 1, 0, none⟩ _ (C + 3) (by simp; omega))).trans h.kd
theorem loop_back {r : Loop} (h1 : r.state = .ready) (h2 : r.pending = none) : ({ ({ r with state := .busy } : Loop) with state := .ready, pending := none } : Loop) = r := by
  cases r
  simp only at h1 h2
  subst h1 h2
  rfl
theorem parse_end {w W : World} {B C : Nat} {v : Value} {ev : Value} {ts : Array Value} {R : Ending → World → Prop} (hB : w.heap.size ≤ B) (hC : C = B + 4) (hb : Below w.heap.size w W) (k1 : Blk W (B + 1) 48 #[v]) (k2 : Blk W (B + 1 + 1) 100 #[ev]) (kd : W.heap[C + 3]? = some (.deferred (some []))) (ht2 : ts[2]? = some (.pointer (some ⟨B + 1, 0, none⟩))) (ht3 : ts[3]? = some (.pointer (some ⟨B + 1 + 1, 0, none⟩)))
    (h : ∀ W', Below w.heap.size w W' → (∀ k, k ≠ C + 3 → W'.heap[k]? = W.heap[k]?) → R (.returned (.tuple #[v, ev])) W') :
    bodyPostM Fence.wide 1 Tryz.prog Tryz.f87 R Exit.ret { tmps := ts, defers := [{ target := .collected (C + 3), args := #[] }] } W := by
  have hlow : ∀ k, k ≠ C + 3 → (W.putObj (C + 3) (.deferred none)).heap[k]? = W.heap[k]? := fun k hk => World.putObj_heap_other hk
  have c1 : (W.putObj (C + 3) (.deferred none)).cell? ⟨B + 1, 0, none⟩ = some v := (k1.same (hlow _ (by omega))).cell 0
  have c2 : (W.putObj (C + 3) (.deferred none)).cell? ⟨B + 1 + 1, 0, none⟩ = some ev := (k2.same (hlow _ (by omega))).cell 0
  refine ⟨by simp, .inl ⟨_, _, rfl, run_takeDeferred kd, ?_⟩⟩
  refine ⟨.tuple #[v, ev], ?_, h _ (hb.trans (belowK_b (w := w) (Nat.le_refl _) W (C + 3) _ _ (by omega) kd rfl rfl)) hlow⟩
  simp [results, Tryz.f87, go_sem, ht2, ht3, c1, c2]
theorem atoiEach_len : ∀ {l : List Bytes} {zs : List Int}, atoiEach l = some zs → zs.length = l.length
  | [], zs, h => by simp only [atoiEach, Option.some.injEq] at h; subst h; rfl
  | p :: l, zs, h => by
    rw [atoiEach] at h
    split at h
    · cases ha : atoiEach l with
      | none => rw [ha] at h; cases h
      | some ys =>
        rw [ha] at h
        simp only [Option.map_some, Option.some.injEq] at h
        subst h
        rw [List.length_cons, List.length_cons, atoiEach_len ha]
    · cases h
theorem put_same {W : World} {l : Nat} {o : Obj} (h : W.heap[l]? = some o) (o' : Obj) : (W.putObj l o').heap[l]? = some o' := World.putObj_heap_same (Array.getElem?_eq_some_iff.1 h).1
theorem seq_enters (args : Array Value) (w : World) : (callFunc 160 args).run Tryz.prog w = .ok (.enter 160 args) w := by kernel_rfl
attribute [local go_sem] Oper.semAt_some
set_option maxRecDepth 100000 in
set_option maxHeartbeats 4000000 in
theorem parse_any (s : Bytes) (hs : s.length ≤ 1100000) (w : World) (hg : Gl w) : Calls Tryz.prog 87 #[str s] w (ParsePost s w) := by
  obtain ⟨i1, hi1, hy0, hy1, hy2⟩ := info_parts infoI3d
  obtain ⟨w0, hw0⟩ : ∃ w0, w0 = (((w.alloc (.cells #[str s] 9)).alloc (.cells #[.slice none 0 0] 48)).alloc (.cells #[.nilIface] 100)).alloc (.cells #[.slice none 0 0] 48) := ⟨_, rfl⟩
  have hb0 : Below w.heap.size w w0 := by rw [hw0]; exact ((((Below.refl w.heap.size w).alloc (Nat.le_refl _) _).alloc (by simp) _).alloc (by simp; omega) _).alloc (by simp; omega) _
  have hz0 : w0.heap.size = w.heap.size + 4 := by rw [hw0]; simp
  obtain ⟨B, hB⟩ : ∃ B, w.heap.size = B := ⟨_, rfl⟩
  have k0 : Blk w0 B 9 #[str s] := by rw [hw0, ← hB]; exact (((Blk.new _ _ _).alloc _).alloc _).alloc _
  have k1 : Blk w0 (B + 1) 48 #[.slice none 0 0] := by
    rw [hw0, ← hB]
    have := ((Blk.new (w.alloc (.cells #[str s] 9)) 48 #[.slice none 0 0]).alloc (.cells #[.nilIface] 100)).alloc (.cells #[.slice none 0 0] 48)
    simpa using this
  have k2 : Blk w0 (B + 1 + 1) 100 #[.nilIface] := by
    rw [hw0, ← hB]
    have := (Blk.new ((w.alloc (.cells #[str s] 9)).alloc (.cells #[.slice none 0 0] 48)) 100 #[.nilIface]).alloc (.cells #[.slice none 0 0] 48)
    simpa using this
  have k3 : Blk w0 (B + 1 + 1 + 1) 48 #[.slice none 0 0] := by
    rw [hw0, ← hB]
    have := Blk.new (((w.alloc (.cells #[str s] 9)).alloc (.cells #[.slice none 0 0] 48)).alloc (.cells #[.nilIface] 100)) 48 #[.slice none 0 0]
    simpa using this
  have HC0 := Lib.hid (SplitSeq_any s [46] w0)
  have HK := Lib.hid (And.intro hb0 (And.intro k0 (And.intro k1 (And.intro k2 (And.intro k3 hz0)))))
  have HW := Lib.hid hw0
  have HBB := Lib.hid hB
  rw [hw0] at HC0
  clear hw0 hb0 k0 k1 k2 k3 hz0
  refine (callsIn_wide (n := 1)).1 (callsIn_of_wp_marks Tryz.func87 rfl trivial (wpIn_wide.2 ?_) rfl)
  simp only [Tryz.ntmps87, List.size_toArray, List.length_cons, List.length_nil, Nat.reduceAdd, Nat.reduceSub, Array.replicate_succ, Array.replicate_zero, List.push_toArray, List.append_toArray, List.nil_append, List.cons_append]
  go_wp2_with fail
  refine HC0.out.mono ?_
  clear HC0
  rintro e w1 ⟨rfl, hw1⟩
  rw [← HW.out] at hw1 ⊢
  obtain ⟨C, hC⟩ : ∃ C, C = w0.heap.size := ⟨_, rfl⟩
  rw [← hC]
  have hCB : C = B + 4 := by rw [hC, HK.out.2.2.2.2.2, HBB.out]
  have hb1 : Below w0.heap.size w0 w1 := by rw [hw1]; exact (((Below.refl w0.heap.size w0).alloc (Nat.le_refl _) _).alloc (by simp) _).alloc (by simp; omega) _
  have kc0 : Blk w1 C 9 #[str s] := by rw [hw1, hC]; exact ((Blk.new _ _ _).alloc _).alloc _
  have kc1 : Blk w1 (C + 1) 9 #[str [46]] := by
    rw [hw1, hC]
    have := (Blk.new (w0.alloc (.cells #[str s] 9)) 9 #[str [46]]).alloc (.cells #[.int .i64 0] 3)
    simpa using this
  have kc2 : Blk w1 (C + 1 + 1) 3 #[.int .i64 0] := by
    rw [hw1, hC]
    have := Blk.new ((w0.alloc (.cells #[str s] 9)).alloc (.cells #[str [46]] 9)) 3 #[.int .i64 0]
    simpa using this
  have hz1 : w1.heap.size = C + 3 := by rw [hw1, hC]; simp
  have H1 := Lib.hid (And.intro hb1 (And.intro kc0 (And.intro kc1 (And.intro kc2 (And.intro hz1 hCB)))))
  clear hw1 hC hCB hb1 kc0 kc1 kc2 hz1
  go_wp2_with fail
  refine range_call (gf := 160) (lb := #[.pointer (some ⟨C + 1, 0, none⟩), .pointer (some ⟨C, 0, none⟩), .pointer (some ⟨C + 1 + 1, 0, none⟩)]) rfl seq_enters ?_
  intro r hrs hrp hrt hrps hra hrb
  have hz1 := H1.out.2.2.2.2.1
  rw [hz1]
  have HZ1 := Lib.hid hz1
  have HRA := Lib.hid hra
  have HRB := Lib.hid hrb
  have HRT := Lib.hid hrt
  clear hz1 hra hrb hrt
  refine (split_iter w s (by omega) B C ?hB ?hC r ?round _ ?pi ?hl).mono ?_
  case hl => exact heap_alloc_at _ _ (by rw [World.size_alloc, HZ1.out])
  case hB => rw [HBB.out]; exact Nat.le_refl _
  case hC => exact H1.out.2.2.2.2.2
  case pi =>
    have hb12 : Below w0.heap.size w0 ((w1.alloc (.deferred (some []))).alloc (.loop r)) := (H1.out.1.alloc H1.out.1.size _).alloc (by have := H1.out.1.size; simp; omega) _
    have hb1 : Below w1.heap.size w1 ((w1.alloc (.deferred (some []))).alloc (.loop r)) := ((Below.refl _ _).alloc (Nat.le_refl _) _).alloc (by simp) _
    exact ⟨HK.out.1.trans (hb12.mono HK.out.1.size), HK.out.2.1.below hb12, HK.out.2.2.1.below hb12, HK.out.2.2.2.1.below hb12, ⟨_, HK.out.2.2.2.2.1.below hb12, World.ownsRow_nil _ _ _ _⟩,
      H1.out.2.1.below hb1, H1.out.2.2.1.below hb1, H1.out.2.2.2.1.below hb1, heap_alloc_keep _ (heap_alloc_at _ _ HZ1.out.symm)⟩
  case round =>
    intro W rest zs p hpl hPI hzl hrec
    refine round_call (R := fun v W' => RoundR w s rest zs p B C r v W') (a := { tmps := #[str s, .pointer (some ⟨B, 0, none⟩), .pointer (some ⟨B + 1, 0, none⟩), .pointer (some ⟨B + 1 + 1, 0, none⟩), .pointer (some ⟨B + 1 + 1 + 1, 0, none⟩), str p, undef, undef, str s, .func (.func 160) #[] #[.pointer (some ⟨C + 1, 0, none⟩), .pointer (some ⟨C, 0, none⟩), .pointer (some ⟨C + 1 + 1, 0, none⟩)], str p, undef, undef, undef, undef, undef, undef, undef, undef, undef, undef, undef, undef, undef, undef, undef, undef, undef, undef, undef, undef, undef, undef, undef, undef, undef], defers := [] }) hrec (by rw [hrps]; rfl) hrs ?assign ?body
    case assign =>
      intro K hK
      rw [HRA.out, HRT.out, hrps]
      gi_wp2
      exact hK
    case body =>
      obtain ⟨Wb, hWb⟩ : ∃ Wb, Wb = W.putObj (C + 4) (.loop { r with state := .busy }) := ⟨_, rfl⟩
      have hB0 : w.heap.size ≤ B := by rw [HBB.out]; exact Nat.le_refl _
      have hpb : PI w s rest zs B C Wb := by rw [hWb]; exact hPI.put hB0 H1.out.2.2.2.2.2 hrec _
      have hrb : Wb.heap[C + 4]? = some (.loop { r with state := .busy }) := by rw [hWb]; exact put_same hrec _
      rw [← hWb, HRB.out]
      clear hWb hPI hrec
      by_cases hse : s = []
      · have e0 : Wb.cell? ⟨B, 0, none⟩ = some (.string ⟨#[]⟩) := by rw [hpb.k0.cell 0, hse]; rfl
        have HP := Lib.hid (And.intro hpb (And.intro hrb (And.intro hse hB0)))
        clear hpb hrb hse hB0
        gi_wp2
        exact ⟨_, HP.out.2.1, .inr (.inl ⟨rfl, HP.out.2.2.1, HP.out.1.put HP.out.2.2.2 H1.out.2.2.2.2.2 HP.out.2.1 _, put_same HP.out.2.1 _⟩)⟩
      · have e0 : Wb.cell? ⟨B, 0, none⟩ = some (str s) := hpb.k0.cell 0
        have HA := Lib.hid (atoi_any p (by omega) Wb (hg.on hpb.below))
        have HP := Lib.hid (And.intro hpb (And.intro hrb (And.intro hse hB0)))
        have hem : List.isEmpty s = false := by cases s with | nil => exact absurd rfl hse | cons _ _ => rfl
        clear hpb hrb hB0
        gi_wp2_with (refine ⟨trivial, ?_⟩; gi_at_call 78; refine (CallsIn.inRound (C + 4) (callsIn_wide.2 HA.out)).mono ?_)
        clear HA
        rintro e W3 (⟨z, hz, rfl⟩ | ⟨hno, z, x, rfl⟩) hb3
        · obtain ⟨v, hv1, hv2⟩ := (HP.out.1.later hb3).k3
          have e3 : W3.cell? ⟨B + 1 + 1 + 1, 0, none⟩ = some v := hv1.cell 0
          have hl3 := hv1.lt
          have H3 := Lib.hid (And.intro (HP.out.1.later hb3) (And.intro ((hb3.block _ (Array.getElem?_eq_some_iff.1 HP.out.2.1).1).trans HP.out.2.1) (And.intro hv1 (And.intro hv2 hz))))
          have hC5 : C + 5 ≤ W3.heap.size := by
            have := (Array.getElem?_eq_some_iff.1 H3.out.2.1).1
            omega
          have hnn := neq_nil
          clear hv1 hv2 hz hb3 e0
          gi_wp2_with (gi_at_builtin; refine wpListIn_append_own _ rfl _ _ 48 rfl (C + 5) 3 i1 (.int .i64 0) 1 8 Tryz.underlying48 hi1 hy0 hy1 hy2 rfl (by decide) _ _ _ rfl (H3.out.2.2.2.1.alloc _) ⟨W3.heap.size, 0, none⟩ 1 1 [.int .i64 z] rfl rfl (cell_one_new _ _ _) (by simp [Value.oneCell']) (by unfold maxLen; omega) (by omega) (by simp; omega) ?_; intro v' w7 hown' hgrow _; obtain ⟨g', cap', rfl⟩ := ownsRow_succ hown'; obtain ⟨hv7, hp7, hlow7⟩ := H3.out.1.push HP.out.2.2.2 H1.out.2.2.2.2.2 H3.out.2.2.1 H3.out.2.2.2.1 hgrow hown'; have e7 : w7.cell? ⟨B + 1 + 1 + 1, 0, none⟩ = some v := hv7.cell 0; have f7 := hv7.froz 0)
          have hr7 : (w7.setCell ⟨B + 1 + 1 + 1, 0, none⟩ (.slice (some ⟨g', 0, none⟩) (zs.length + 1) cap')).heap[C + 4]? = some (.loop { r with state := .busy }) := by
            rw [Below.heap_setCell w7 ⟨B + 1 + 1 + 1, 0, none⟩ _ (C + 4) (by have := H1.out.2.2.2.2.2; simp; omega), hlow7 _ (by omega) (by omega)]
            exact H3.out.2.1
          refine ⟨_, hr7, .inl ⟨rfl, HP.out.2.2.1, z, H3.out.2.2.2.2, hp7.put HP.out.2.2.2 H1.out.2.2.2.2.2 hr7 _, ?_⟩⟩
          rw [loop_back hrs hrp]
          exact put_same hr7 _
        · have H3 := Lib.hid (And.intro (HP.out.1.later hb3) (And.intro ((hb3.block _ (Array.getElem?_eq_some_iff.1 HP.out.2.1).1).trans HP.out.2.1) hno))
          have e1 : W3.cell? ⟨B + 1, 0, none⟩ = some (.slice none 0 0) := H3.out.1.k1.cell 0
          have f1 := H3.out.1.k1.froz 0
          have e2 : W3.cell? ⟨B + 1 + 1, 0, none⟩ = some .nilIface := H3.out.1.k2.cell 0
          have f2 := H3.out.1.k2.froz 0
          clear hno hb3 e0
          gi_wp2
          have hpr := H3.out.1.fail HP.out.2.2.2 H1.out.2.2.2.2.2
          have hrl : ((W3.setCell ⟨B + 1, 0, none⟩ (.slice none 0 0)).setCell ⟨B + 1 + 1, 0, none⟩ (.iface 36 (.int .i64 3))).heap[C + 4]? = some (.loop { r with state := .busy }) := by
            have hc := H1.out.2.2.2.2.2
            rw [Below.heap_setCell _ ⟨B + 1 + 1, 0, none⟩ _ (C + 4) (by simp; omega), Below.heap_setCell _ ⟨B + 1, 0, none⟩ _ (C + 4) (by simp; omega)]
            exact H3.out.2.1
          exact ⟨_, hrl, .inr (.inr ⟨rfl, HP.out.2.2.1, H3.out.2.2, hpr.put HP.out.2.2.2 H1.out.2.2.2.2.2 hrl _, put_same hrl _⟩)⟩
  · rintro e W' ⟨hv, hend⟩
    refine ⟨hv, ?_⟩
    have hB0 : w.heap.size ≤ B := by rw [HBB.out]; exact Nat.le_refl _
    have hend2 : (∃ zs rest x, (if s = [] then some [] else atoiEach (cuts 46 s)) = some zs ∧ PI w s rest zs B C W' ∧ W'.heap[C + 4]? = some (.loop x) ∧ x.state ≠ .busy ∧ (x.pending = none ∨ x.pending = some (.exit 0))) ∨
        (∃ x, (if s = [] then some [] else atoiEach (cuts 46 s)) = none ∧ PR w s B C W' ∧ W'.heap[C + 4]? = some (.loop x) ∧ x.state ≠ .busy ∧ x.pending = some .ret) := by
      rcases hend with ⟨hne, zs, rest, heq, hpi, hrec⟩ | ⟨he, hpi, hrec⟩ | ⟨hne, heq, hpr, hrec⟩
      · exact .inl ⟨zs, rest, r, by rw [if_neg hne]; exact heq, hpi, hrec, by rw [hrs]; simp, .inl hrp⟩
      · exact .inl ⟨[], [], _, by rw [if_pos he], hpi, hrec, by simp, .inr rfl⟩
      · exact .inr ⟨_, by rw [if_neg hne]; exact heq, hpr, hrec, by simp, rfl⟩
    clear hend hv
    rcases hend2 with ⟨zs, rest, x, heq, hpi, hrec, hxs, hxp⟩ | ⟨x, heq, hpr, hrec, hxs, hxp⟩
    · refine ⟨x, hrec, hxs, fun W2 hW2 => ?_⟩
      have hp2 : PI w s rest zs B C W2 := by rw [hW2]; exact hpi.put hB0 H1.out.2.2.2.2.2 hrec _
      obtain ⟨v, hv1, hv2⟩ := hp2.k3
      have e0 : W2.cell? ⟨B, 0, none⟩ = some (str s) := hp2.k0.cell 0
      have H2 := Lib.hid (And.intro heq (And.intro hp2 (And.intro hv1 hv2)))
      obtain ⟨vo, vc, rfl⟩ := owns_shape hv2
      have e3 : W2.cell? ⟨B + 1 + 1 + 1, 0, none⟩ = some (.slice vo zs.length vc) := hv1.cell 0
      have e1 : W2.cell? ⟨B + 1, 0, none⟩ = some (.slice none 0 0) := hp2.k1.cell 0
      have e2 : W2.cell? ⟨B + 1 + 1, 0, none⟩ = some .nilIface := hp2.k2.cell 0
      have f1 := hp2.k1.froz 0
      have f2 := hp2.k2.froz 0
      clear hW2 hp2 hpi hrec hxs heq hv1 hv2
      rcases hxp with hxp | hxp
      all_goals
        rw [hxp]
        by_cases htk : tapeOk zs = true
        · have hzi : ∀ z ∈ zs, i64ok z := fun z hz => by
            unfold tapeOk at htk
            rw [List.all_eq_true] at htk
            have := htk z hz
            simp only [Bool.and_eq_true, decide_eq_true_eq] at this
            unfold i64ok
            omega
          have hzn : zs.length ≤ s.length + 1 := by
            have h := H2.out.1
            split at h
            · cases h; simp
            · have h1 := atoiEach_len h
              have h2 := cuts_length 46 s
              omega
          have HCK := Lib.hid (fun (wx : World) (hbx : Below W2.heap.size W2 wx) => tape_check_any zs vo zs.length vc rfl (owns_len H2.out.2.2.2) wx ((IntsAt.of_owns H2.out.2.2.2).below (Nat.le_refl _) hbx))
          have HTX := Lib.hid (fun (wx : World) (hbx : Below W2.heap.size W2 wx) => tape_text_any zs vo zs.length vc rfl (by omega) hzi wx ((hg.on H2.out.2.1.below).on hbx) ((IntsAt.of_owns H2.out.2.2.2).below (Nat.le_refl _) hbx))
          have HTK := Lib.hid htk
          have HZN := Lib.hid hzn
          have hlB : B < W2.heap.size := H2.out.2.1.k0.lt
          have hlB3 : B + 1 + 1 + 1 < W2.heap.size := H2.out.2.2.1.lt
          have hnn := neq_nil
          obtain ⟨tt, htt⟩ : ∃ tt, tt = ttext zs := ⟨_, rfl⟩
          rw [← htt] at HTX
          have HTT := Lib.hid htt
          clear htk hzn hzi htt
          by_cases hte : tt = s
          · have hbq : (tt == s) = true := by rw [beq_iff_eq]; exact hte
            have HV := Lib.hid (show tapeV s = some zs by unfold tapeV; rw [H2.out.1]; simp only; rw [if_pos ⟨HTK.out, by rw [← HTT.out]; exact hte⟩])
            clear hte
            go_wp2_with fail
            go_region_held3 (fun w' => w'.cell? ⟨B, 0, none⟩ = some (str s) ∧ w'.cell? ⟨B + 1 + 1 + 1, 0, none⟩ = some (.slice vo zs.length vc)) (go_keep) (first | (go_at_call 115; refine (HCK.out _ ?_).mono ?_; (first | exact (Below.refl _ _).drew | exact Below.refl _ _); rintro e w' ⟨he, rfl⟩; rw [if_pos HTK.out] at he; subst he) | (go_at_call 52; refine (HTX.out _ ?_).mono ?_; (first | exact (Below.refl _ _).drew | exact Below.refl _ _); rintro e w3 ⟨rfl, hb3⟩; have q0 := (hb3.cell (p := ⟨B, 0, none⟩) hlB).trans e0; have q3 := (hb3.cell (p := ⟨B + 1 + 1 + 1, 0, none⟩) hlB3).trans e3))
            have hb3' : Below W2.heap.size W2 w3 := (Below.refl W2.heap.size W2).drew.trans hb3
            have g1 : w3.cell? ⟨B + 1, 0, none⟩ = some (.slice none 0 0) := (H2.out.2.1.k1.below hb3').cell 0
            have g2 : w3.cell? ⟨B + 1 + 1, 0, none⟩ = some .nilIface := (H2.out.2.1.k2.below hb3').cell 0
            have h1 := (H2.out.2.1.k1.below hb3').froz 0
            have h2 := (H2.out.2.1.k2.below hb3').froz 0
            have H3 := Lib.hid hb3'
            clear hb3 hb3' e0 e1 e2 e3 f1 f2
            go_wp2_with fail
            have hCB := H1.out.2.2.2.2.2
            refine parse_end hB0 hCB (((H2.out.2.1.below.trans (H3.out.mono H2.out.2.1.below.size)).setCell (by simp; omega) _).setCell (by simp; omega) _) (v := .slice vo zs.length vc) (ev := .nilIface) (by simpa using ((H2.out.2.1.k1.below H3.out).set 0 (.slice vo zs.length vc)).other (B + 1 + 1) 0 (by omega) .nilIface) (by simpa using ((H2.out.2.1.k2.below H3.out).other (B + 1) 0 (by omega) (.slice vo zs.length vc)).set 0 .nilIface)
              (((Below.heap_setCell _ ⟨B + 1 + 1, 0, none⟩ _ (C + 3) (by simp; omega)).trans (Below.heap_setCell _ ⟨B + 1, 0, none⟩ _ (C + 3) (by simp; omega))).trans ((H3.out.block _ (Array.getElem?_eq_some_iff.1 H2.out.2.1.kd).1).trans H2.out.2.1.kd)) rfl rfl ?_
            intro W3 hbW hsame
            refine ⟨hbW, .inl ⟨zs, vo, vc, HV.out, rfl, ?_, HZN.out⟩⟩
            exact IntsAt.of_owns (owns_block (owns_below H2.out.2.2.2 H3.out) fun q hq _ => (hsame q (by omega)).trans ((Below.heap_setCell _ ⟨B + 1 + 1, 0, none⟩ _ q (by simp; omega)).trans (Below.heap_setCell _ ⟨B + 1, 0, none⟩ _ q (by simp; omega))))
          · have hbq : (tt == s) = false := by rw [beq_eq_false_iff_ne]; exact hte
            have HV := Lib.hid (show tapeV s = none by unfold tapeV; rw [H2.out.1]; simp only; rw [if_neg (fun h => hte (by rw [HTT.out]; exact h.2))])
            clear hte
            go_wp2_with fail
            go_region_held3 (fun w' => w'.cell? ⟨B, 0, none⟩ = some (str s) ∧ w'.cell? ⟨B + 1 + 1 + 1, 0, none⟩ = some (.slice vo zs.length vc)) (go_keep) (first | (go_at_call 115; refine (HCK.out _ ?_).mono ?_; (first | exact (Below.refl _ _).drew | exact Below.refl _ _); rintro e w' ⟨he, rfl⟩; rw [if_pos HTK.out] at he; subst he) | (go_at_call 52; refine (HTX.out _ ?_).mono ?_; (first | exact (Below.refl _ _).drew | exact Below.refl _ _); rintro e w3 ⟨rfl, hb3⟩; have q0 := (hb3.cell (p := ⟨B, 0, none⟩) hlB).trans e0; have q3 := (hb3.cell (p := ⟨B + 1 + 1 + 1, 0, none⟩) hlB3).trans e3))
            have hb3' : Below W2.heap.size W2 w3 := (Below.refl W2.heap.size W2).drew.trans hb3
            have g1 : w3.cell? ⟨B + 1, 0, none⟩ = some (.slice none 0 0) := (H2.out.2.1.k1.below hb3').cell 0
            have g2 : w3.cell? ⟨B + 1 + 1, 0, none⟩ = some .nilIface := (H2.out.2.1.k2.below hb3').cell 0
            have h1 := (H2.out.2.1.k1.below hb3').froz 0
            have h2 := (H2.out.2.1.k2.below hb3').froz 0
            have H3 := Lib.hid hb3'
            clear hb3 hb3' e0 e1 e2 e3 f1 f2
            go_wp2_with fail
            have hCB := H1.out.2.2.2.2.2
            refine parse_end hB0 hCB (((H2.out.2.1.below.trans (H3.out.mono H2.out.2.1.below.size)).setCell (by simp; omega) _).setCell (by simp; omega) _) (v := .slice none 0 0) (ev := .iface 36 (.int .i64 3)) (by simpa using ((H2.out.2.1.k1.below H3.out).set 0 (.slice none 0 0)).other (B + 1 + 1) 0 (by omega) (.iface 36 (.int .i64 3))) (by simpa using ((H2.out.2.1.k2.below H3.out).other (B + 1) 0 (by omega) (.slice none 0 0)).set 0 (.iface 36 (.int .i64 3)))
              (((Below.heap_setCell _ ⟨B + 1 + 1, 0, none⟩ _ (C + 3) (by simp; omega)).trans (Below.heap_setCell _ ⟨B + 1, 0, none⟩ _ (C + 3) (by simp; omega))).trans ((H3.out.block _ (Array.getElem?_eq_some_iff.1 H2.out.2.1.kd).1).trans H2.out.2.1.kd)) rfl rfl ?_
            intro W3 hbW hsame
            exact ⟨hbW, .inr ⟨HV.out, rfl⟩⟩
        · have HCK := Lib.hid (fun (q : Nat) => (tape_check_any zs vo zs.length vc rfl (owns_len H2.out.2.2.2) (W2.drewN q) ((IntsAt.of_owns H2.out.2.2.2).drewN q)).mono (R' := fun e w' => e = .returned (.iface 36 (.int .i64 1)) ∧ w' = W2.drewN q) (fun e w' h => ⟨by have h1 := h.1; rw [if_neg htk] at h1; exact h1, h.2⟩))
          have HV := Lib.hid (show tapeV s = none by unfold tapeV; rw [H2.out.1]; simp only; rw [if_neg (fun h => htk h.1)])
          have hne1 := neq_errno 1
          clear htk
          go_wp2_with fail
          go_quiet (first | (go_at_call 115; refine Calls.quiet_of_same (HCK.out _)))
          obtain ⟨w3, hw3⟩ : ∃ w3, w3 = W2.drewN nq := ⟨_, rfl⟩
          rw [← hw3]
          have hb3' : Below W2.heap.size W2 w3 := by rw [hw3]; exact below_drewN (Below.refl _ _) nq
          have g1 : w3.cell? ⟨B + 1, 0, none⟩ = some (.slice none 0 0) := (H2.out.2.1.k1.below hb3').cell 0
          have g2 : w3.cell? ⟨B + 1 + 1, 0, none⟩ = some .nilIface := (H2.out.2.1.k2.below hb3').cell 0
          have h1 := (H2.out.2.1.k1.below hb3').froz 0
          have h2 := (H2.out.2.1.k2.below hb3').froz 0
          have H3 := Lib.hid hb3'
          clear hb3' e0 e1 e2 e3 f1 f2 hw3
          go_wp2_with fail
          have hCB := H1.out.2.2.2.2.2
          refine parse_end hB0 hCB (((H2.out.2.1.below.trans (H3.out.mono H2.out.2.1.below.size)).setCell (by simp; omega) _).setCell (by simp; omega) _) (v := .slice none 0 0) (ev := .iface 36 (.int .i64 3)) (by simpa using ((H2.out.2.1.k1.below H3.out).set 0 (.slice none 0 0)).other (B + 1 + 1) 0 (by omega) (.iface 36 (.int .i64 3))) (by simpa using ((H2.out.2.1.k2.below H3.out).other (B + 1) 0 (by omega) (.slice none 0 0)).set 0 (.iface 36 (.int .i64 3)))
            (((Below.heap_setCell _ ⟨B + 1 + 1, 0, none⟩ _ (C + 3) (by simp; omega)).trans (Below.heap_setCell _ ⟨B + 1, 0, none⟩ _ (C + 3) (by simp; omega))).trans ((H3.out.block _ (Array.getElem?_eq_some_iff.1 H2.out.2.1.kd).1).trans H2.out.2.1.kd)) rfl rfl ?_
          intro W3 hbW hsame
          exact ⟨hbW, .inr ⟨HV.out, rfl⟩⟩
    · refine ⟨x, hrec, hxs, fun W2 hW2 => ?_⟩
      have hp2 : PR w s B C W2 := by rw [hW2]; exact hpr.put hB0 H1.out.2.2.2.2.2 hrec _
      have H2 := Lib.hid (And.intro heq hp2)
      clear hW2 hp2 hpr hrec hxs heq
      rw [hxp]
      go_wp2_with fail
      refine parse_end hB0 H1.out.2.2.2.2.2 H2.out.2.below H2.out.2.k1 H2.out.2.k2 H2.out.2.kd rfl rfl ?_
      intro W3 hb3 _
      exact ⟨hb3, .inr ⟨by unfold tapeV; rw [H2.out.1], rfl⟩⟩
end Go.Proofs.YtalbllijahiiiaaGreatDoor
end

section
namespace Go.Proofs.YtalbllijahiiiaaGreatDoor
open Go.RowKit Go.Mine Go.Mine.Desk

theorem splitK_cuts (c : UInt8) : ∀ (f : Nat) (s : Bytes), s.length < f → Go.Lib.splitK [c] 0 (Go.Lib.count s [c]) s = cuts c s ∧ Go.Lib.count s [c] + 1 = (cuts c s).length
  | 0, s, h => by omega
  | f + 1, s, h => by
    have hge := Go.Lib.indexByte_ge s c
    obtain ⟨ix, hix⟩ : ∃ ix, ix = Go.Lib.indexByte s c := ⟨_, rfl⟩
    rw [← hix] at hge
    rcases (show ix < 0 ∨ 0 ≤ ix by omega) with h0 | h0
    · obtain rfl : ix = -1 := by omega
      rw [Go.Lib.count_miss (by rw [Go.Lib.index_one]; exact hix.symm), cuts_last hix.symm]
      exact ⟨rfl, rfl⟩
    · obtain ⟨k, rfl⟩ := Int.eq_ofNat_of_zero_le h0
      obtain ⟨hk, hc⟩ := cuts_next hix.symm
      have hi : Go.Lib.index s [c] = (k : Int) := by rw [Go.Lib.index_one]; exact hix.symm
      obtain ⟨i1, i2⟩ := splitK_cuts c f (s.drop (k + 1)) (by rw [List.length_drop]; omega)
      rw [Go.Lib.count_hit (by simp) hi, hc]
      rw [show ([c] : Bytes).length = 1 from rfl]
      refine ⟨?_, by rw [List.length_cons]; omega⟩
      rw [Nat.add_comm 1, Go.Lib.splitK, hi, if_neg (by simp), ← i1]
      simp
theorem cutText_any (s : Bytes) (c : UInt8) (hs : s.length ≤ 4000000000) (w : World) (hg : Gl w) : Calls Tryz.prog 9 #[str s, str [c]] w fun e w' =>
    e = .returned (.slice (some ⟨w.heap.size, 0, none⟩) (cuts c s).length (cuts c s).length) ∧ w' = w.alloc (.cells ((cuts c s).map str).toArray 9) := by
  obtain ⟨m, hm⟩ := hg.maxLen
  have h := Tryz.strings_Split ⟨s.toArray⟩ ⟨[c].toArray⟩ m w (by simp [ByteArray.size]; omega) hm (by simp [ByteArray.size])
  obtain ⟨h1, h2⟩ := splitK_cuts c (s.length + 1) s (by omega)
  have hcb : Go.Lib.countB ⟨s.toArray⟩ ⟨[c].toArray⟩ = Go.Lib.count s [c] := by
    unfold Go.Lib.countB
    simp
  have hsp : (Go.Lib.splitB ⟨[c].toArray⟩ 0 (Go.Lib.count s [c]) ⟨s.toArray⟩).map Value.string = (cuts c s).map str := by
    have h3 := Go.Lib.splitB_data ⟨[c].toArray⟩ 0 (Go.Lib.count s [c]) ⟨s.toArray⟩
    simp only at h3
    rw [h1] at h3
    rw [← h3, List.map_map]
    refine List.map_congr_left fun x _ => ?_
    simp
  rw [hcb, h2, hsp] at h
  exact h
def StrsAt (w : World) (ao : Option Addr) (l : List Bytes) : Prop := ∀ j, j < l.length → ∃ b o, ao = some ⟨b, o, none⟩ ∧ w.cell? ⟨b, o + j, none⟩ = some (str (l.getD j []))
theorem StrsAt.on {w w' : World} {ao : Option Addr} {l : List Bytes} (h : StrsAt w ao l) (hb : Below w.heap.size w w') : StrsAt w' ao l := fun j hj => by
  obtain ⟨b, o, h1, h2⟩ := h j hj
  exact ⟨b, o, h1, (hb.cell (by exact World.block_lt_of_cell? w _ h2)).trans h2⟩
def ChoPost (s : Bytes) (w : World) (e : Ending) (w' : World) : Prop :=
  Below w.heap.size w w' ∧ ((∃ l uo uc, tapeV s = some l ∧ e = .returned (.slice uo l.length uc) ∧ IntsAt .i64 w' uo l ∧ l.length ≤ s.length + 1) ∨ (tapeV s = none ∧ e = panics 7))
theorem choices_any (s : Bytes) (hs : s.length ≤ 1100000) (w : World) (hg : Gl w) : Calls Tryz.prog 59 #[str s] w (ChoPost s w) := by
  have HC := Lib.hid (parse_any s hs w hg)
  have hne3 := neq_errno 3
  have hnn := neq_nil
  clear hg
  go_enter Tryz.func59, Tryz.ntmps59
  go_wp2_with fail
  refine HC.out.mono ?_
  clear HC
  rintro e w1 ⟨hb1, ⟨l, uo, uc, hv, rfl, hat, hl⟩ | ⟨hv, rfl⟩⟩
  · have H1 := Lib.hid (And.intro hb1 (And.intro hv (And.intro hat hl)))
    clear hb1 hv hat hl
    go_wp2_with fail
    go_ret
    exact ⟨H1.out.1, .inl ⟨l, uo, uc, H1.out.2.1, rfl, H1.out.2.2.1, H1.out.2.2.2⟩⟩
  · have H1 := Lib.hid (And.intro hb1 hv)
    clear hb1 hv
    go_wp2_with fail
    exact body_panics ⟨H1.out.1, .inr ⟨H1.out.2, rfl⟩⟩
end Go.Proofs.YtalbllijahiiiaaGreatDoor
end
