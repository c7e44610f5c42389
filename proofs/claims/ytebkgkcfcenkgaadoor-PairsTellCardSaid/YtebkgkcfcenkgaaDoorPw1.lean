/- pairs.Check, has; slices.IndexFunc, ContainsFunc at [][]int; the functions that missing hands on. No conditions. -/
import Derived.Test.YtebkgkcfcenkgaaDoorRows
import Derived.Test.YtebkgkcfcenkgaaDoorRows3
import Derived.Test.YtebkgkcfcenkgaaDoorFours
import Derived.Test.YtebkgkcfcenkgaaDoorPairsP
import Derived.Deep.QuietTactic
import Derived.BigQuiet
namespace Go.Proofs.YtebkgkcfcenkgaaDoor
open Go.RowKit Go.Mine Go.Mine.Pw

def pfault (L : List Int) : Int := if 12 < L.length then 4 else 1
set_option maxHeartbeats 600000 in
theorem pwcheck_any (L : List Int) (ao : Option Addr) (c : Nat) (w : World) (hx : IntsAt .i64 w ao L) (hl : L.length ≤ maxLen) :
    Calls Tryd.prog 6 #[.slice ao L.length c] w fun e w' => ((okL L ∧ e = .returned .nilIface) ∨ (¬ okL L ∧ e = .returned (.iface 24 (.int .i64 (pfault L))))) ∧ w = w' := by
  unfold maxLen at hl
  have HX := Lib.hid hx; clear hx
  by_cases h12 : 12 < L.length
  · have hb : decide ((12 : Int) < (L.length : Int)) = true := by simp; omega
    have HP := Lib.hid (show pfault L = 4 by unfold pfault; rw [if_pos h12])
    have HN := Lib.hid (show ¬ okL L from fun h => by have := h.1; omega)
    clear h12
    go_enter Tryd.func6, Tryd.ntmps6
    go_wp2_with fail
    go_ret
    exact ⟨.inr ⟨HN.out, by rw [HP.out]; rfl⟩, rfl⟩
  have hb : decide ((12 : Int) < (L.length : Int)) = false := by simp; omega
  have HP := Lib.hid (show pfault L = 1 by unfold pfault; rw [if_neg h12])
  go_enter Tryd.func6, Tryd.ntmps6
  go_wp2_with fail
  go_loop [11] (fun i => ∃ k : Nat, i = .int .i64 k ∧ k ≤ L.length ∧ RowKit.Hid (∀ j, j < k → 1 ≤ L.getD j 0 ∧ L.getD j 0 ≤ 5)) (fun i => L.length - (intOf i).toNat)
  case atStart => exact ⟨0, rfl, by omega, Lib.hid (fun j hj => by omega)⟩
  case round =>
    obtain ⟨k, rfl, hk, hall⟩ := hrel
    by_cases hlt : k < L.length
    · obtain ⟨b, o, rfl, hc⟩ := HX.out k hlt
      have hmem : L.getD k 0 ∈ L := by simp [hlt]
      obtain ⟨z, hz⟩ : ∃ z, z = L.getD k 0 := ⟨_, rfl⟩
      rw [← hz] at hc hmem
      have HZ := Lib.hid hz
      have HM := Lib.hid hmem
      clear hz hmem
      by_cases h1 : z < 1
      · have hd1 : decide (z < 1) = true := decide_eq_true h1
        have HN := Lib.hid (show ¬ okL L from fun h => by have := h.2 z HM.out; omega)
        clear h1
        go_wp2_with fail
        go_ret
        exact ⟨.inr ⟨HN.out, by rw [HP.out]; rfl⟩, rfl⟩
      have hd1 : decide (z < 1) = false := decide_eq_false h1
      by_cases h2 : 5 < z
      · have hd2 : decide (5 < z) = true := decide_eq_true h2
        have HN := Lib.hid (show ¬ okL L from fun h => by have := h.2 z HM.out; omega)
        clear h1 h2
        go_wp2_with fail
        go_ret
        exact ⟨.inr ⟨HN.out, by rw [HP.out]; rfl⟩, rfl⟩
      have hd2 : decide (5 < z) = false := decide_eq_false h2
      have HJ := Lib.hid (show ∀ j, j < k + 1 → 1 ≤ L.getD j 0 ∧ L.getD j 0 ≤ 5 from fun j hj => by
        by_cases e : j = k
        · rw [e, ← HZ.out]; omega
        · exact hall.out j (by omega))
      clear h1 h2 hall
      go_wp2_with fail
      go_round
      case rel => exact ⟨k + 1, by go_num, by omega, HJ⟩
      case measure => simp [intOf]; omega
    · have hke : k = L.length := by omega
      subst hke
      have HO := Lib.hid (show okL L from ⟨by omega, fun x hx => by
        obtain ⟨j, hj, rfl⟩ := List.mem_iff_getElem.1 hx
        have := hall.out j hj
        simpa [hj] using this⟩)
      clear hall
      go_wp2_with fail
      go_ret
      exact ⟨.inl ⟨HO.out, rfl⟩, rfl⟩

def fourV (r : List Int) : Value := .agg #[.int .i64 (r.getD 0 0), .int .i64 (r.getD 1 0), .int .i64 (r.getD 2 0), .int .i64 (r.getD 3 0)]
set_option maxHeartbeats 600000 in
theorem has_any (r : List Int) (ao : Option Addr) (c : Nat) (w : World) (hx : IntsAt .i64 w ao r) (hl : r.length ≤ maxLen) (a x b y : Nat) (ha : a < r.length) (hb : b < r.length) :
    Calls Tryd.prog 22 #[.slice ao r.length c, fourV (four a x b y)] w fun e w' => e = .returned (.bool (hasP r (four a x b y))) ∧ Below w.heap.size w w' := by
  unfold maxLen at hl
  obtain ⟨g, o, rfl, hc1⟩ := hx a ha
  obtain ⟨g2, o2, he, hc2⟩ := hx b hb
  cases he
  have HH := Lib.hid (show hasP r (four a x b y) = (r.getD a 0 == (x : Int) && r.getD b 0 == (y : Int)) by unfold hasP four; simp)
  obtain ⟨u, hu⟩ : ∃ u, u = r.getD a 0 := ⟨_, rfl⟩
  obtain ⟨v, hv⟩ : ∃ v, v = r.getD b 0 := ⟨_, rfl⟩
  rw [← hu] at hc1 HH
  rw [← hv] at hc2 HH
  have ha' : (a : Int) < (r.length : Int) := by omega
  have hb' : (b : Int) < (r.length : Int) := by omega
  have hg := World.block_lt_of_cell? w _ hc1
  have hd1 : ∀ X, (w.alloc X).cell? ⟨g, o + a, none⟩ = some (.int .i64 u) := fun X => (World.cell?_of_block (w := w) (heap_alloc_old _ _ hg)).trans hc1
  have hd2 : ∀ X, (w.alloc X).cell? ⟨g, o + b, none⟩ = some (.int .i64 v) := fun X => (World.cell?_of_block (w := w) (a := ⟨g, o + b, none⟩) (heap_alloc_old _ _ hg)).trans hc2
  clear hx hu hv hc1 hc2
  obtain ⟨res, hres⟩ : ∃ res, res = hasP r (four a x b y) := ⟨_, rfl⟩
  rw [← hres] at HH ⊢
  clear hres
  unfold fourV four
  simp only [List.getD_cons_zero, List.getD_cons_succ]
  by_cases h1 : u = (x : Int)
  · have hd : (u == (x : Int)) = true := beq_iff_eq.2 h1
    have HH2 := Lib.hid (HH.out.trans (show (u == (x : Int) && v == (y : Int)) = (v == (y : Int)) by rw [hd]; rfl))
    clear HH h1
    go_enter Tryd.func22, Tryd.ntmps22
    go_wp2_with fail
    go_quiet (fail)
    go_wp2_with fail
    go_ret
    exact ⟨by rw [HH2.out]; rfl, below_drewN ((Below.refl _ _).alloc (Nat.le_refl _) _) _⟩
  · have hd : (u == (x : Int)) = false := beq_eq_false_iff_ne.2 h1
    have HH2 := Lib.hid (HH.out.trans (show (u == (x : Int) && v == (y : Int)) = false by rw [hd]; rfl))
    clear HH h1
    go_enter Tryd.func22, Tryd.ntmps22
    go_wp2_with fail
    go_quiet (fail)
    go_wp2_with fail
    go_ret
    exact ⟨by rw [HH2.out]; rfl, below_drewN ((Below.refl _ _).alloc (Nat.le_refl _) _) _⟩

set_option maxHeartbeats 600000 in
/-- A function value over rows that writes nothing that was there. -/
theorem idxR_any (rows : List (List Int)) (ao : Option Addr) (c : Nat) (w : World) (hx : RowsAt w ao rows) (hl : rows.length ≤ maxLen) (g : Nat) (lb : Array Value) (p : List Int → Bool)
    (hrun : ∀ v w, Sem.run Tryd.prog (callFunc g (#[v] ++ lb)) w = .ok (.enter g (#[v] ++ lb)) w)
    (hp : ∀ w', Below w.heap.size w w' → ∀ r ∈ rows, ∀ ro rc, IntsAt .i64 w' ro r → r.length ≤ maxLen → Calls Tryd.prog g (#[.slice ro r.length rc] ++ lb) w' fun e w'' => e = .returned (.bool (p r)) ∧ Below w'.heap.size w' w'') :
    Calls Tryd.prog 30 #[.slice ao rows.length c, .func (.func g) #[] lb] w fun e w' => (∃ z, e = .returned (.int .i64 z) ∧ ((z = -1 ∧ ∀ x ∈ rows, p x = false) ∨ (∃ k : Nat, z = k ∧ k < rows.length ∧ p (rows.getD k []) = true))) ∧ Below w.heap.size w w' := by
  unfold maxLen at hl
  have HX := Lib.hid hx; clear hx
  have HP := Lib.hid hp; clear hp
  go_enter Tryd.func30, Tryd.ntmps30
  go_wp2_with fail
  go_loopw [8] (fun i wr => ∃ k : Nat, i = .int .i64 k ∧ k ≤ rows.length ∧ RowKit.Hid (∀ j, j < k → p (rows.getD j []) = false) ∧ RowKit.Hid (Below w.heap.size w wr)) (fun i _ => rows.length - (intOf i).toNat)
  case atStart => exact ⟨0, rfl, by omega, Lib.hid (fun j hj => by omega), Lib.hid (Below.refl _ _)⟩
  case round =>
    obtain ⟨k, rfl, hk, hall, hb⟩ := hrel
    by_cases hlt : k < rows.length
    · obtain ⟨b, o, ro, rc, rfl, hc, hri, hrl, _⟩ := HX.out.below (Nat.le_refl _) hb.out k hlt
      have hmem : rows.getD k [] ∈ rows := by simp [hlt]
      obtain ⟨z, hz⟩ : ∃ z, z = rows.getD k [] := ⟨_, rfl⟩
      obtain ⟨v, hv⟩ : ∃ v, v = p z := ⟨_, rfl⟩
      have HPZ := Lib.hid (HP.out wr hb.out z (by rw [hz]; exact hmem) ro rc (by rw [hz]; exact hri) (by rw [hz]; exact hrl))
      rw [← hz] at hc
      rw [← hv] at HPZ
      have HZ := Lib.hid hz
      have HV := Lib.hid hv
      have HB := Lib.hid hb.out
      clear hz hv hmem hb hri hrl
      go_wp2_with fail
      refine HPZ.out.mono ?_
      clear HPZ
      rintro e w' ⟨rfl, hb'⟩
      have HB' := Lib.hid (HB.out.trans (hb'.mono HB.out.size))
      clear hb'
      cases v
      · go_wp2_with fail
        go_roundw
        case rel =>
          refine ⟨k + 1, by go_num, by omega, Lib.hid (fun j hj => ?_), HB'⟩
          by_cases e : j = k
          · subst e; rw [← HZ.out, ← HV.out]
          · exact hall.out j (by omega)
        case measure => simp [intOf]; omega
      · go_wp2_with fail
        go_ret
        exact ⟨⟨_, rfl, .inr ⟨k, rfl, hlt, by rw [← HZ.out, ← HV.out]⟩⟩, HB'.out⟩
    · have hke : k = rows.length := by omega
      subst hke
      go_wp2_with fail
      go_ret
      refine ⟨⟨_, rfl, .inl ⟨rfl, fun x hx => ?_⟩⟩, hb.out⟩
      obtain ⟨j, hj, rfl⟩ := List.mem_iff_getElem.1 hx
      have := hall.out j hj
      simpa [hj] using this
theorem ctnR_any (rows : List (List Int)) (ao : Option Addr) (c : Nat) (w : World) (hx : RowsAt w ao rows) (hl : rows.length ≤ maxLen) (g : Nat) (lb : Array Value) (p : List Int → Bool)
    (hrun : ∀ v w, Sem.run Tryd.prog (callFunc g (#[v] ++ lb)) w = .ok (.enter g (#[v] ++ lb)) w)
    (hp : ∀ w', Below w.heap.size w w' → ∀ r ∈ rows, ∀ ro rc, IntsAt .i64 w' ro r → r.length ≤ maxLen → Calls Tryd.prog g (#[.slice ro r.length rc] ++ lb) w' fun e w'' => e = .returned (.bool (p r)) ∧ Below w'.heap.size w' w'') :
    Calls Tryd.prog 20 #[.slice ao rows.length c, .func (.func g) #[] lb] w fun e w' => e = .returned (.bool (rows.any p)) ∧ Below w.heap.size w w' := by
  have H := idxR_any rows ao c w hx hl g lb p hrun hp
  clear hrun hp
  unfold maxLen at hl
  go_enter Tryd.func20, Tryd.ntmps20
  go_wp2_with fail
  refine H.mono ?_
  clear H
  rintro e w' ⟨⟨z, rfl, hz⟩, hb⟩
  rcases hz with ⟨rfl, hz⟩ | ⟨k, rfl, hk, hz⟩
  · have hE : rows.any p = false := by rw [List.any_eq_false]; exact fun x hx => by rw [hz x hx]; simp
    have HE := Lib.hid hE
    clear hz hE
    go_wp2_with fail
    go_ret
    exact ⟨by rw [HE.out]; rfl, hb⟩
  · have hE : rows.any p = true := List.any_eq_true.2 ⟨rows.getD k [], by simp [hk], hz⟩
    have HE := Lib.hid hE
    clear hz hE
    go_wp2_with fail
    go_ret
    exact ⟨by rw [HE.out]; rfl, hb⟩

theorem m11_enters (v : Value) (lb : Array Value) (w : World) : Sem.run Tryd.prog (callFunc 21 (#[v] ++ lb)) w = .ok (.enter 21 (#[v] ++ lb)) w := by kernel_rfl
theorem m1_enters (v : Value) (lb : Array Value) (w : World) : Sem.run Tryd.prog (callFunc 19 (#[v] ++ lb)) w = .ok (.enter 19 (#[v] ++ lb)) w := by kernel_rfl
/-- The four cells of a box. -/
def Box4 (w : World) (pb : Nat) (a x b y : Nat) : Prop := w.cell? ⟨pb, 0, none⟩ = some (.int .i64 (a : Int)) ∧ w.cell? ⟨pb, 1, none⟩ = some (.int .i64 (x : Int)) ∧ w.cell? ⟨pb, 2, none⟩ = some (.int .i64 (b : Int)) ∧ w.cell? ⟨pb, 3, none⟩ = some (.int .i64 (y : Int))
theorem Box4.below {w w' : World} {pb a x b y : Nat} (h : Box4 w pb a x b y) (hb : Below w.heap.size w w') : Box4 w' pb a x b y := by
  obtain ⟨h1, h2, h3, h4⟩ := h
  have hl := World.block_lt_of_cell? w _ h1
  exact ⟨(hb.cell (p := ⟨pb, 0, none⟩) hl).trans h1, (hb.cell (p := ⟨pb, 1, none⟩) hl).trans h2, (hb.cell (p := ⟨pb, 2, none⟩) hl).trans h3, (hb.cell (p := ⟨pb, 3, none⟩) hl).trans h4⟩
theorem m11_any (r : List Int) (ao : Option Addr) (c : Nat) (w : World) (hx : IntsAt .i64 w ao r) (hl : r.length ≤ maxLen) (pb a x b y : Nat) (hp : Box4 w pb a x b y) (ha : a < r.length) (hb : b < r.length) :
    Calls Tryd.prog 21 #[.slice ao r.length c, .pointer (some ⟨pb, 0, none⟩)] w fun e w' => e = .returned (.bool (hasP r (four a x b y))) ∧ Below w.heap.size w w' := by
  have H := Lib.hid (has_any r ao c w hx hl a x b y ha hb)
  simp only [fourV, four, List.getD_cons_zero, List.getD_cons_succ] at H
  obtain ⟨res, hres⟩ : ∃ res, res = hasP r (four a x b y) := ⟨_, rfl⟩
  rw [show ([(a : Int), (x : Int), (b : Int), (y : Int)] : List Int) = four a x b y from rfl, ← hres] at H
  rw [← hres]
  obtain ⟨h1, h2, h3, h4⟩ := hp
  clear hx hres
  go_enter Tryd.func21, Tryd.ntmps21
  go_wp2_with fail
  refine H.out.mono ?_
  clear H
  rintro e w' ⟨rfl, hb'⟩
  go_wp2_with fail
  go_ret
  exact ⟨rfl, hb'⟩
/-- Some row has the pair. -/
def anyP (rows : List (List Int)) (p : List Int) : Bool := rows.any fun r => hasP r p
theorem m1_any (rows : List (List Int)) (ao : Option Addr) (c pm : Nat) (w : World) (hx : RowsAt w ao rows) (hl : rows.length ≤ maxLen) (hc : w.cell? ⟨pm, 0, none⟩ = some (.slice ao rows.length c)) (a x b y n : Nat) (hr : ∀ r ∈ rows, r.length = n) (ha : a < n) (hb : b < n) :
    Calls Tryd.prog 19 #[fourV (four a x b y), .pointer (some ⟨pm, 0, none⟩)] w fun e w' => e = .returned (.bool (anyP rows (four a x b y))) ∧ Below w.heap.size w w' := by
  have HX := Lib.hid (fun (w' : World) (h : Below w.heap.size w w') => hx.below (Nat.le_refl _) h)
  have hpm := World.block_lt_of_cell? w _ hc
  have hb1 : Below w.heap.size w (w.alloc (.cells #[.int .i64 (a : Int), .int .i64 (x : Int), .int .i64 (b : Int), .int .i64 (y : Int)] 40)) := (Below.refl _ _).alloc (Nat.le_refl _) _
  have hnb : (w.alloc (.cells #[.int .i64 (a : Int), .int .i64 (x : Int), .int .i64 (b : Int), .int .i64 (y : Int)] 40)).heap[w.heap.size]? = some (.cells #[.int .i64 (a : Int), .int .i64 (x : Int), .int .i64 (b : Int), .int .i64 (y : Int)] 40 (0, 0)) := heap_alloc_new _ _
  have hbox : Box4 (w.alloc (.cells #[.int .i64 (a : Int), .int .i64 (x : Int), .int .i64 (b : Int), .int .i64 (y : Int)] 40)) w.heap.size a x b y := by
    refine ⟨?_, ?_, ?_, ?_⟩ <;> (rw [cell_of_row _ _ _ _ _ _ hnb]; rfl)
  have HC := Lib.hid (ctnR_any rows ao c _ (HX.out _ hb1) hl 21 #[.pointer (some ⟨w.heap.size, 0, none⟩)] (fun r => hasP r (four a x b y)) (fun v w => m11_enters v _ w)
    (fun w' hb' r hr' ro rc hri hrl => m11_any r ro rc w' hri hrl w.heap.size a x b y (hbox.below hb') (by rw [hr r hr']; exact ha) (by rw [hr r hr']; exact hb)))
  have hres : (rows.any fun r => hasP r (four a x b y)) = anyP rows (four a x b y) := rfl
  rw [hres] at HC
  have HB := Lib.hid hb1
  clear hx hb1 hnb hbox hres
  obtain ⟨res, hres⟩ : ∃ res, res = anyP rows (four a x b y) := ⟨_, rfl⟩
  rw [← hres] at HC ⊢
  clear hres
  unfold fourV four
  simp only [List.getD_cons_zero, List.getD_cons_succ]
  go_enter Tryd.func19, Tryd.ntmps19
  go_wp2_with fail
  refine HC.out.mono ?_
  clear HC
  rintro e w' ⟨rfl, hb'⟩
  go_wp2_with fail
  go_ret
  exact ⟨rfl, HB.out.trans (hb'.mono HB.out.size)⟩
end Go.Proofs.YtebkgkcfcenkgaaDoor
