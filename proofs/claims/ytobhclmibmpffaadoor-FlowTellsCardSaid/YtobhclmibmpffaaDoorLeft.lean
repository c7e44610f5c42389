/- flow.Left. No conditions. -/
import Derived.Test.YtobhclmibmpffaaDoorCheck2
import Derived.Test.YtobhclmibmpffaaDoorDelE
import Derived.Test.YtobhclmibmpffaaDoorCloneE
import Derived.Test.YtobhclmibmpffaaDoorCtnE
import Derived.Test.YtobhclmibmpffaaDoorMapF
import Derived.Test.YtobhclmibmpffaaDoorMapKey
import Derived.Deep.RegionHeld3
namespace Go.Mine
open Go

/-- A way goes this edge, among its first k steps. -/
def goneK (way : List Int) (k : Nat) (e : Int × Int) : Bool := (List.range k).any fun j => decide (way.getD j 0 = e.1 ∧ way.getD (j + 1) 0 = e.2)
def gone (way : List Int) (e : Int × Int) : Bool := goneK way (way.length - 1) e
def left (es : List (Int × Int)) (way : List Int) : List (Int × Int) := es.filter fun e => !gone way e
/-- A way along edges, from 0. -/
def isWay (es : List (Int × Int)) (way : List Int) : Prop := 0 < way.length ∧ way.getD 0 0 = 0 ∧ ∀ k, k + 1 < way.length → (way.getD k 0, way.getD (k + 1) 0) ∈ es
def goneF (way : List Int) (k : Nat) (e : Int × Int) : Option Value := if goneK way k e then some (.agg #[]) else none
theorem goneF_zero (way : List Int) : ∀ e, goneF way 0 e = none := fun _ => rfl
theorem goneF_isSome (way : List Int) (k : Nat) (e : Int × Int) : (goneF way k e).isSome = goneK way k e := by unfold goneF; cases goneK way k e <;> rfl
theorem goneF_val {way : List Int} {k : Nat} {e : Int × Int} {v : Value} (h : goneF way k e = some v) : v = .agg #[] := by
  unfold goneF at h
  split at h
  · exact (Option.some.inj h).symm
  · cases h
theorem goneF_next (way : List Int) (k : Nat) : ∀ e, goneF way (k + 1) e = upd (goneF way k) (way.getD k 0, way.getD (k + 1) 0) (.agg #[]) e := by
  rintro ⟨a, b⟩
  unfold upd goneF goneK
  rw [List.range_succ, List.any_append]
  by_cases h : (a, b) = (way.getD k 0, way.getD (k + 1) 0)
  · rw [if_pos h]
    simp only [Prod.mk.injEq] at h
    simp [h.1, h.2]
  · rw [if_neg h]
    have : (decide (way.getD k 0 = a ∧ way.getD (k + 1) 0 = b)) = false := decide_eq_false (fun hc => h (by rw [hc.1, hc.2]))
    simp only [List.any_cons, List.any_nil, Bool.or_false, this]
end Go.Mine
namespace Go.Proofs.YtobhclmibmpffaaDoor
open Go.RowKit Go.Mine Go.Maps

theorem edgeV_inj : ∀ x y : Int × Int, edgeV x = edgeV y → x = y := by
  rintro ⟨a, b⟩ ⟨c, d⟩ h
  unfold edgeV at h
  simp only [Value.agg.injEq, Array.mk.injEq, List.cons.injEq, Value.int.injEq, true_and, and_true] at h
  rw [h.1, h.2]
theorem edgeKeyed : Keyed Tryd.prog 35 := Keyed.of_law (deep_law_laid (by kernel_rfl) (m := 5) (by decide) (of_decide_eq_true (by kernel_rfl)) (by kernel_rfl) (by kernel_rfl))
theorem edgeKey_legal (x : Int × Int) (h1 : 0 ≤ x.1 ∧ x.1 < 100) (h2 : 0 ≤ x.2 ∧ x.2 < 100) : ∃ l, keyOf Tryd.prog 35 (edgeV x) = some l := by
  obtain ⟨a, b⟩ := x
  exact keyOf_struct2 Tryd.underlying35 rfl rfl rfl rfl (by decide) (by decide) Tryd.underlying3 (by kernel_rfl) (by kernel_rfl) (by kernel_rfl) (of_decide_eq_true (by kernel_rfl)) (WalkArith.wf_i64 (by simp only at h1; omega)) (WalkArith.wf_i64 (by simp only at h2; omega))
theorem unitZero (w : World) : (zeroValue 48).run Tryd.prog w = .ok (.agg #[]) w := by kernel_rfl
theorem left1_enters (v : Value) (lb : Array Value) (w : World) : Sem.run Tryd.prog (callFunc 20 (#[v] ++ lb)) w = .ok (.enter 20 (#[v] ++ lb)) w := by kernel_rfl

set_option maxHeartbeats 400000 in
theorem left1_any (way : List Int) (k : Nat) (x : Int × Int) (pm bm : Nat) (w : World) (hc : w.cell? ⟨pm, 0, none⟩ = some (.map (some bm))) (hm : HasMap Tryd.prog 35 edgeV w bm (goneF way k)) (h1 : 0 ≤ x.1 ∧ x.1 < 100) (h2 : 0 ≤ x.2 ∧ x.2 < 100) :
    Calls Tryd.prog 20 #[edgeV x, .pointer (some ⟨pm, 0, none⟩)] w fun e w' => e = .returned (.bool (goneK way k x)) ∧ Below w.heap.size w w' := by
  obtain ⟨l, hl⟩ := edgeKey_legal x h1 h2
  obtain ⟨a, b⟩ := x
  have hbl := hm.lt
  have hlook := HasMap.look (hm.keep (w' := w.alloc (.cells #[.int .i64 a, .int .i64 b] 35)) (Go.heap_alloc_old _ _ hbl)) true edgeKeyed Tryd.underlying46 edgeV_inj (unitZero _) hl
  have hgv : (goneF way k (a, b)).getD (.agg #[]) = .agg #[] := by
    cases h : goneF way k (a, b) with
    | none => rfl
    | some v => exact goneF_val h
  rw [goneF_isSome, hgv, if_pos rfl] at hlook
  have hpl := World.block_lt_of_cell? w _ hc
  obtain ⟨y, hy⟩ : ∃ y, y = goneK way k (a, b) := ⟨_, rfl⟩
  rw [← hy] at hlook ⊢
  unfold edgeV at hlook ⊢
  simp only at hlook ⊢
  clear hm hl hgv hy h1 h2
  go_enter Tryd.func20, Tryd.ntmps20
  go_wp2_with fail
  go_ret
  exact ⟨rfl, ((Below.refl _ _).alloc (Nat.le_refl _) _).alloc (by simp) _⟩

/-- What Left tells. -/
def LeftPost (n : Int) (es : List (Int × Int)) (way : List Int) (e : Ending) (w' : World) : Prop :=
  (¬ ok n es ∧ e = .returned (.tuple #[.slice none 0 0, .iface 25 (.int .i64 (efault n es))])) ∨
  (ok n es ∧ ¬ isWay es way ∧ e = .returned (.tuple #[.slice none 0 0, .iface 25 (.int .i64 3)])) ∨
  (ok n es ∧ isWay es way ∧ ∃ ao cap, e = .returned (.tuple #[.slice ao (left es way).length cap, .nilIface]) ∧ PairsAt w' ao (left es way))
theorem delE_nil (w : World) (g : Nat) (lb : Array Value) (p : Int × Int → Bool) (blk : Nat)
    (hrun : ∀ v w, Sem.run Tryd.prog (callFunc g (#[v] ++ lb)) w = .ok (.enter g (#[v] ++ lb)) w) (hp : GivesE g lb w blk p []) :
    Calls Tryd.prog 18 #[.slice none 0 0, .func (.func g) #[] lb] w fun e w' => e = .returned (.slice none 0 0) ∧ Below w.heap.size w w' := by
  have HI := Lib.hid (idxE_any [] none 0 w (PairsAt.nil _ _) (by simp) g lb blk p hrun hp)
  clear hp
  go_enter Tryd.func18, Tryd.ntmps18
  go_wp2_with fail
  refine HI.out.mono ?_
  clear HI
  rintro e w1 ⟨⟨z, rfl, hz⟩, hb1⟩
  rcases hz with ⟨rfl, hz⟩ | ⟨k, rfl, hk, _⟩
  · clear hz
    go_wp2_with fail
    go_ret
    exact ⟨rfl, hb1⟩
  · simp at hk
set_option maxHeartbeats 2000000 in
theorem left_any (n : Int) (es : List (Int × Int)) (way : List Int) (lo wo : Option Addr) (lc wc : Nat) (W : World) (hx : PairsAt W lo es) (hn : lo = none → es.length = 0) (hl : es.length ≤ maxLen) (hw : IntsAt .i64 W wo way) (hwl : way.length ≤ maxLen) :
    Calls Tryd.prog 13 #[.int .i64 n, .slice lo es.length lc, .slice wo way.length wc] W fun e w' => LeftPost n es way e w' ∧ Below W.heap.size W w' := by
  have HC := Lib.hid (check_any n es lo lc W hx hl)
  have HX := Lib.hid (show ∀ w, Below W.heap.size W w → PairsAt w lo es from fun w hb => hx.below (Nat.le_refl _) hb)
  have HW := Lib.hid hw
  have HL := Lib.hid hl
  have HNIL := Lib.hid hn
  clear hn
  unfold maxLen at hl hwl
  have hmm := @run_makeMap Tryd.prog
  clear hx hw
  go_enter Tryd.func13, Tryd.ntmps13
  go_wp2_with fail
  refine HC.out.mono ?_
  clear HC
  rintro e w1 ⟨hp, hb1⟩
  have HB1 := Lib.hid hb1
  clear hb1
  rcases hp with ⟨hok, rfl⟩ | ⟨hno, rfl⟩
  rotate_left
  · have HNO := Lib.hid hno
    clear hno
    go_wp2_with fail
    go_ret2
    exact ⟨.inl ⟨HNO.out, rfl⟩, HB1.out⟩
  have hes30 := hok.2.2.1
  have HOK := Lib.hid hok
  clear hok
  by_cases hw0 : way.length = 0
  · have hb0 : ((way.length : Int) == 0) = true := by rw [beq_iff_eq]; omega
    have HN := Lib.hid (show ¬ isWay es way from fun h => by have := h.1; omega)
    clear hw0
    go_wp2_with fail
    go_ret2
    exact ⟨.inr (.inl ⟨HOK.out, HN.out, rfl⟩), HB1.out⟩
  have hb0 : ((way.length : Int) == 0) = false := by rw [beq_eq_false_iff_ne]; omega
  obtain ⟨bw, ow, hwe, _⟩ := HW.out 0 (by omega)
  subst hwe
  have hw1 := HW.out.below (Nat.le_refl _) HB1.out
  obtain ⟨_, _, hwe, hcw⟩ := hw1 0 (by omega)
  cases hwe
  obtain ⟨x0, hx0⟩ : ∃ x0, x0 = way.getD 0 0 := ⟨_, rfl⟩
  rw [← hx0, Nat.add_zero] at hcw
  have HX0 := Lib.hid hx0
  have hwp : 0 < way.length := by omega
  have hwp2 : (0 : Int) < (way.length : Int) := by omega
  clear hx0 hw1
  by_cases hx00 : x0 = 0
  rotate_left
  · have hbx : (x0 != 0) = true := by rw [bne_iff_ne]; exact hx00
    have HN := Lib.hid (show ¬ isWay es way from fun h => hx00 (HX0.out.trans h.2.1))
    go_wp2_with fail
    go_ret2
    exact ⟨.inr (.inl ⟨HOK.out, HN.out, rfl⟩), HB1.out⟩
  have hbx : (x0 != 0) = false := by rw [bne_eq_false_iff_eq]; exact hx00
  have HX00 := Lib.hid (show way.getD 0 0 = 0 by rw [← HX0.out]; exact hx00)
  have HM0 := Lib.hid (show HasMap Tryd.prog 35 edgeV ((w1.alloc (.map #[] 0)).alloc (.cells #[.map (some w1.heap.size)] 46)) w1.heap.size (goneF way 0) from (HasMap.made _ _ _ _).to (by rw [Go.heap_alloc_old _ _ (by simp)]) (fun x => goneF_zero way x))
  clear hx00 hw0
  go_wp2_with fail
  go_loopw [10] (fun iv wr => ∃ i : Nat, iv = .int .i64 i ∧ 1 ≤ i ∧ i ≤ way.length ∧ RowKit.Hid (HasMap Tryd.prog 35 edgeV wr w1.heap.size (goneF way (i - 1))) ∧ RowKit.Hid (wr.cell? ⟨w1.heap.size + 1, 0, none⟩ = some (.map (some w1.heap.size))) ∧ RowKit.Hid (Below w1.heap.size w1 wr) ∧ RowKit.Hid (∀ k, k + 1 < i → (way.getD k 0, way.getD (k + 1) 0) ∈ es)) (fun iv _ => way.length - (intOf iv).toNat)
  case atStart => exact ⟨1, rfl, by omega, by omega, HM0, Lib.hid (by rw [cell_of_row _ _ 0 _ _ _ (show ((w1.alloc (.map #[] 0)).alloc (.cells #[.map (some w1.heap.size)] 46)).heap[w1.heap.size + 1]? = some (.cells #[.map (some w1.heap.size)] 46 (0, 0)) from heap_alloc_at _ _ (by simp))]; rfl), Lib.hid (((Below.refl _ _).alloc (Nat.le_refl _) _).alloc (by simp) _), Lib.hid (fun k hk => by omega)⟩
  clear HM0
  case round =>
    obtain ⟨i, rfl, hi1, hi, hm, hcp, hb, hall⟩ := hrel
    have hcpc := hcp.out
    have hbW := HB1.out.trans (hb.out.mono HB1.out.size)
    by_cases hil : i < way.length
    · obtain ⟨j, hji⟩ : ∃ j, j = i - 1 := ⟨_, rfl⟩
      obtain ⟨_, _, hwe, hc1⟩ := HW.out.below (Nat.le_refl _) hbW j (by omega)
      cases hwe
      obtain ⟨_, _, hwe, hc2⟩ := HW.out.below (Nat.le_refl _) hbW i hil
      cases hwe
      obtain ⟨a, ha⟩ : ∃ a, a = way.getD j 0 := ⟨_, rfl⟩
      obtain ⟨b, hbb⟩ : ∃ b, b = way.getD i 0 := ⟨_, rfl⟩
      rw [← ha] at hc1
      rw [← hbb] at hc2
      have HAB := Lib.hid (And.intro ha hbb)
      have hje : IntKind.i64.wrap ((i : Int) - 1) = (j : Int) := by rw [show (i : Int) - 1 = (j : Int) by omega]; exact IntWalk.i64_in _ (by omega)
      have hj0 : (0 : Int) ≤ (j : Int) := by omega
      have hjl : (j : Int) < (way.length : Int) := by omega
      have hjl2 : j < way.length := by omega
      have hi0 : (0 : Int) ≤ (i : Int) := by omega
      have hil2 : (i : Int) < (way.length : Int) := by omega
      have HJI := Lib.hid hji
      rw [← hji] at hm
      have HM := Lib.hid hm.out
      have HB := Lib.hid hb.out
      have HBW := Lib.hid hbW
      clear hm hb ha hbb hcp hbW hji
      go_wp2_with fail
      go_region_held3 (fun w' => w'.cell? ⟨bw, ow + j, none⟩ = some (.int .i64 a) ∧ w'.cell? ⟨bw, ow + i, none⟩ = some (.int .i64 b)) (go_keep) (fail)
      obtain ⟨w2, hw2⟩ : ∃ w2, w2 = (wr.alloc (.cells #[.int .i64 a, .int .i64 b] 35)).drew := ⟨_, rfl⟩
      have hb2 : Below wr.heap.size wr w2 := by rw [hw2]; exact below_drewN ((Below.refl _ _).alloc (Nat.le_refl _) _) 1
      have hs2 : w2.heap.size = wr.heap.size + 1 := by rw [hw2]; simp
      have hbl2 : w2.heap[wr.heap.size]? = some (.cells #[.int .i64 a, .int .i64 b] 35 (0, 0)) := by rw [hw2]; exact heap_drew_at (heap_alloc_at _ _ rfl)
      have HC := Lib.hid (containsE_any es a b lo lc w2 (HX.out w2 (HBW.out.trans (hb2.mono HBW.out.size))) HL.out)
      have hn1 : w2.cell? ⟨wr.heap.size, 0, none⟩ = some (.int .i64 a) := by rw [cell_of_row w2 _ 0 _ _ _ hbl2]; rfl
      have hn2 : w2.cell? ⟨wr.heap.size, 1, none⟩ = some (.int .i64 b) := by rw [cell_of_row w2 _ 1 _ _ _ hbl2]; rfl
      have HH2 := Lib.hid (And.intro hb2 hbl2)
      have HPC := Lib.hid hcpc
      rw [← hw2]
      clear hw2 hb2 hbl2
      go_wp2_with fail
      refine HC.out.mono ?_
      clear HC
      rintro e w3 ⟨rfl, hb3⟩
      have hb3' := HH2.out.1.trans (hb3.mono (by omega))
      have hm1 : (⟨wr.heap.size, 0, none⟩ : Addr).block < w2.heap.size := by show wr.heap.size < _; omega
      have hn3 : w3.cell? ⟨wr.heap.size, 0, none⟩ = some (.int .i64 a) := (hb3.cell (p := ⟨wr.heap.size, 0, none⟩) hm1).trans hn1
      have hn4 : w3.cell? ⟨wr.heap.size, 1, none⟩ = some (.int .i64 b) := (hb3.cell (p := ⟨wr.heap.size, 1, none⟩) hm1).trans hn2
      have hcp3 : w3.cell? ⟨w1.heap.size + 1, 0, none⟩ = some (.map (some w1.heap.size)) := (hb3'.cell (p := ⟨w1.heap.size + 1, 0, none⟩) (World.block_lt_of_cell? wr _ HPC.out)).trans HPC.out
      have HB3 := Lib.hid (HB.out.trans (hb3'.mono HB.out.size))
      have HM3 := Lib.hid (HM.out.keep (w' := w3) (hb3'.block _ HM.out.lt))
      clear hb3 hb3' hcpc hn1 hn2
      by_cases hmem : (a, b) ∈ es
      · rw [decide_eq_true hmem]
        have hab := HOK.out.2.2.2 (a, b) hmem
        simp only at hab
        have hn12 := HOK.out.2.1
        obtain ⟨l, hleg⟩ := edgeKey_legal (a, b) (by simp only; omega) (by simp only; omega)
        obtain ⟨w4, hst, hm4, hg4, hs4⟩ := HM3.out.store edgeKeyed Tryd.underlying46 edgeV_inj hleg (.agg #[])
        have hst' : (Instr.mapUpdate 46 (.map (some w1.heap.size)) (.agg #[.int .i64 a, .int .i64 b]) (.agg #[])).run Tryd.prog w3 = .ok () w4 := hst
        have HM4 := Lib.hid (show HasMap Tryd.prog 35 edgeV w4 w1.heap.size (goneF way (i + 1 - 1)) from hm4.to rfl (fun e => by
          rw [show i + 1 - 1 = j + 1 by have := HJI.out; omega, goneF_next way j e, HAB.out.1, HAB.out.2, show i = j + 1 by have := HJI.out; omega]))
        have HC4 := Lib.hid (show w4.cell? ⟨w1.heap.size + 1, 0, none⟩ = some (.map (some w1.heap.size)) from hg4.cell hcp3 (by simp))
        have HB4 := Lib.hid (HB3.out.grown hg4 HB3.out.size (fun k hk => by cases hk; exact Nat.le_refl _))
        have HA4 := Lib.hid (show ∀ k, k + 1 < i + 1 → (way.getD k 0, way.getD (k + 1) 0) ∈ es from fun k hk => by
          by_cases e : k = j
          · rw [e, ← HAB.out.1, show j + 1 = i by have := HJI.out; omega, ← HAB.out.2]; exact hmem
          · exact hall.out k (by have := HJI.out; omega))
        clear hst hm4 hg4 hs4 hleg hab hmem hall
        go_wp2_with fail
        go_roundw
        case rel => exact ⟨i + 1, by go_num, by omega, by omega, HM4, HC4, HB4, HA4⟩
        case measure => simp [intOf]; omega
      · rw [decide_eq_false hmem]
        have HN := Lib.hid (show ¬ isWay es way from fun h => hmem (by
          have := h.2.2 j (by have := HJI.out; omega)
          rw [HAB.out.1, HAB.out.2, show i = j + 1 by have := HJI.out; omega]
          exact this))
        clear hmem hall
        go_wp2_with fail
        go_ret2
        exact ⟨.inr (.inl ⟨HOK.out, HN.out, rfl⟩), HB1.out.trans (HB3.out.mono HB1.out.size)⟩
    · obtain rfl : i = way.length := by omega
      have HWAY := Lib.hid (show isWay es way from ⟨hwp, HX00.out, hall.out⟩)
      have HM := Lib.hid hm.out
      have HB := Lib.hid hb.out
      have HCL := Lib.hid (cloneE_own lo lc es wr (HX.out wr hbW) HNIL.out (by omega))
      clear hm hb hall hcp hbW
      go_wp2_with fail
      refine HCL.out.mono ?_
      clear HCL
      rintro e w5 ⟨v', rfl, hov, hb5⟩
      have hcp5 : w5.cell? ⟨w1.heap.size + 1, 0, none⟩ = some (.map (some w1.heap.size)) := (hb5.cell (p := ⟨w1.heap.size + 1, 0, none⟩) (World.block_lt_of_cell? wr _ hcpc)).trans hcpc
      have HM5 := Lib.hid (HM.out.keep (w' := w5) (hb5.block _ HM.out.lt))
      have HB5 := Lib.hid (HB.out.trans (hb5.mono HB.out.size))
      have hpl := World.block_lt_of_cell? wr _ hcpc
      have hml := HM.out.lt
      have hG : ∀ gr : Nat, wr.heap.size ≤ gr → GivesE 20 #[.pointer (some ⟨w1.heap.size + 1, 0, none⟩)] w5 gr (gone way) es := fun gr hgr w' hg x hx => by
        have hab := HOK.out.2.2.2 x hx
        have hn12 := HOK.out.2.1
        exact left1_any way (way.length - 1) x (w1.heap.size + 1) w1.heap.size w' (hg.cell hcp5 (by simp; simp only at hpl; omega)) (HM5.out.keep (hg.block _ HM5.out.lt (by simp; omega))) (by omega) (by omega)
      rcases hov.2 with ⟨rfl, h0⟩ | ⟨g, cap, cur, rfl, hbg, _⟩
      · have hes : es = [] := List.eq_nil_of_length_eq_zero h0
        subst hes
        have HDN := Lib.hid (delE_nil w5 20 #[.pointer (some ⟨w1.heap.size + 1, 0, none⟩)] (gone way) wr.heap.size (fun v w => left1_enters v _ w) (hG wr.heap.size (Nat.le_refl _)))
        clear hov h0 hG hb5 hcp5 hcpc
        go_wp2_with fail
        refine HDN.out.mono ?_
        clear HDN
        rintro e w6 ⟨rfl, hb6⟩
        have HB6 := Lib.hid (HB1.out.trans ((HB5.out.trans (hb6.mono HB5.out.size)).mono HB1.out.size))
        clear hb6
        go_wp2_with fail
        go_ret2
        exact ⟨.inr (.inr ⟨HOK.out, HWAY.out, none, 0, rfl, PairsAt.nil _ _⟩), HB6.out⟩
      · have HD := Lib.hid (delE_any es g cap w5 (owns_mono hov (Nat.zero_le _)) HL.out 20 #[.pointer (some ⟨w1.heap.size + 1, 0, none⟩)] (gone way) (fun v w => left1_enters v _ w) (hG g hbg))
        have hgb := hbg
        have hws := HB.out.size
        clear hov hG hb5 hcp5 hcpc
        go_wp2_with fail
        refine HD.out.mono ?_
        clear HD
        rintro e w6 ⟨rfl, ho6, hg6⟩
        have HP6 := Lib.hid (show PairsAt w6 (some ⟨g, 0, none⟩) (left es way) from PairsAt.of_owns ho6)
        have HB6 := Lib.hid (HB1.out.trans ((HB5.out.grown hg6 HB5.out.size (fun k hk => by cases hk; omega)).mono HB1.out.size))
        clear ho6 hg6
        go_wp2_with fail
        go_ret2
        exact ⟨.inr (.inr ⟨HOK.out, HWAY.out, _, _, rfl, HP6.out⟩), HB6.out⟩
end Go.Proofs.YtobhclmibmpffaaDoor
