/- oa.Right: its keys, its map. No conditions. -/
import Derived.Test.YtmcbplklopejlaaDoorOa2
import Derived.Test.YtmcbplklopejlaaDoorMapF
import Derived.Test.YtmcbplklopejlaaDoorMapKey
import Derived.Deep.LoopGhost
namespace Go.Mine
open Go

/-- Two places of a row, what stands there. -/
abbrev OaKey := Nat × Nat × Int × Int
def oaK (x : OaKey) : Value := .agg #[.int .i64 x.1, .int .i64 x.2.1, .int .i64 x.2.2.1, .int .i64 x.2.2.2]
theorem oaK_inj : ∀ x y : OaKey, oaK x = oaK y → x = y := by
  rintro ⟨a, b, c, d⟩ ⟨a', b', c', d'⟩ h
  unfold oaK at h
  simp only [Value.agg.injEq, Array.mk.injEq, List.cons.injEq, Value.int.injEq, true_and, and_true] at h
  obtain ⟨h1, h2, h3, h4⟩ := h
  have e1 : a = a' := by omega
  have e2 : b = b' := by omega
  rw [e1, e2, h3, h4]
def keyAt (r : List Int) (a b : Nat) : OaKey := (a, b, r.getD a 0, r.getD b 0)
/-- A row's keys, so far. -/
def keysR (r : List Int) (a b : Nat) : List OaKey := (List.range a).flatMap (fun a => (List.range a).map (keyAt r a)) ++ (List.range b).map (keyAt r a)
def keysOf (rows : List (List Int)) : List OaKey := rows.flatMap fun r => keysR r r.length 0
theorem keysR_next (r : List Int) (a b : Nat) : keysR r a (b + 1) = keysR r a b ++ [keyAt r a b] := by simp [keysR, List.range_succ]
theorem keysR_row (r : List Int) (a : Nat) : keysR r (a + 1) 0 = keysR r a a := by simp [keysR, List.range_succ]
theorem keysOf_succ {rows : List (List Int)} {i : Nat} (hi : i < rows.length) : keysOf (rows.take (i + 1)) = keysOf (rows.take i) ++ keysR (rows.getD i []) (rows.getD i []).length 0 := by
  unfold keysOf
  rw [List.take_succ_eq_append_getElem hi, List.flatMap_append]
  congr 1
  simp [hi]
theorem mem_keysR {r : List Int} {a b : Nat} {x : OaKey} (h : x ∈ keysR r a b) : x.1 < a ∨ (x.1 = a ∧ x.2.1 < b) := by
  unfold keysR at h
  simp only [List.mem_append, List.mem_flatMap, List.mem_map, List.mem_range] at h
  rcases h with ⟨a', h1, b', _, rfl⟩ | ⟨b', h1, rfl⟩
  · exact .inl h1
  · exact .inr ⟨rfl, h1⟩
theorem keysR_nodup (r : List Int) : ∀ (a b : Nat), (keysR r a b).Nodup
  | 0, 0 => by simp [keysR]
  | a + 1, 0 => by rw [keysR_row]; exact keysR_nodup r a a
  | a, b + 1 => by
    rw [keysR_next, List.nodup_append]
    refine ⟨keysR_nodup r a b, by simp, fun x hx y hy => ?_⟩
    simp only [List.mem_singleton] at hy
    subst hy
    intro e
    subst e
    rcases mem_keysR hx with h | ⟨_, h⟩
    · exact Nat.lt_irrefl _ h
    · exact Nat.lt_irrefl _ h
termination_by a b => (a, b)
theorem count_keysR (r : List Int) (a b : Nat) (x : OaKey) : (keysR r a b).count x ≤ 1 := List.nodup_iff_count.1 (keysR_nodup r a b) x
theorem count_keysOf (rows : List (List Int)) (x : OaKey) : (keysOf rows).count x ≤ rows.length := by
  induction rows with
  | nil => simp [keysOf]
  | cons r rows ih =>
    have h := count_keysR r r.length 0 x
    show (keysR r r.length 0 ++ keysOf rows).count x ≤ _
    rw [List.count_append, List.length_cons]
    omega
theorem count_new (rows : List (List Int)) (r : List Int) (a b : Nat) : (keysOf rows ++ keysR r a b).count (keyAt r a b) ≤ rows.length := by
  have h := count_keysOf rows (keyAt r a b)
  have h2 : (keysR r a b).count (keyAt r a b) = 0 := List.count_eq_zero.2 (fun hm => by
    rcases mem_keysR hm with h | ⟨_, h⟩
    · exact Nat.lt_irrefl _ h
    · exact Nat.lt_irrefl _ h)
  rw [List.count_append, h2]
  omega
/-- How often a key was met. -/
def oaF (L : List OaKey) (x : OaKey) : Option Value := if L.count x = 0 then none else some (.int .i64 (L.count x))
theorem oaF_getD (L : List OaKey) (x : OaKey) : (oaF L x).getD (.int .i64 0) = .int .i64 (L.count x) := by
  unfold oaF
  split
  · rename_i h; rw [h]; rfl
  · rfl
theorem oaF_next (L : List OaKey) (x : OaKey) : ∀ y, oaF (L ++ [x]) y = upd (oaF L) x (.int .i64 (L.count x + 1)) y := by
  intro y
  unfold upd oaF
  rw [List.count_append]
  by_cases h : y = x
  · subst h
    rw [if_pos rfl, if_neg (by simp)]
    simp
  · rw [if_neg h]
    have : List.count y [x] = 0 := by rw [List.count_eq_zero]; simpa using h
    rw [this, Nat.add_zero]
theorem oaF_empty : ∀ x, oaF [] x = none := fun x => by simp [oaF]
theorem nodup_of_counts {L : List OaKey} (h : ∀ x ∈ L, L.count x ≤ 1) : L.Nodup := by
  rw [List.nodup_iff_count]
  intro x
  by_cases hx : x ∈ L
  · exact h x hx
  · rw [List.count_eq_zero.2 hx]; omega
/-- The rows' form. -/
def oaForm (q : Nat) (rows : List (List Int)) : Prop := ∀ r ∈ rows, r.length = q + 1 ∧ ∀ z ∈ r, 0 ≤ z ∧ z < q
/-- Each two places hold each pair once at most. -/
def oaOnce (rows : List (List Int)) : Prop := (keysOf rows).Nodup
end Go.Mine
namespace Go.Proofs.YtmcbplklopejlaaDoor
open Go.RowKit Go.Mine Go.Maps

theorem oaKeyed : Keyed Tryd.prog 39 := Keyed.of_law (deep_law_laid (by kernel_rfl) (m := 5) (by decide) (of_decide_eq_true (by kernel_rfl)) (by kernel_rfl) (by kernel_rfl))
theorem oaKey_legal (x : OaKey) (h1 : x.1 < 100) (h2 : x.2.1 < 100) (h3 : 0 ≤ x.2.2.1 ∧ x.2.2.1 < 100) (h4 : 0 ≤ x.2.2.2 ∧ x.2.2.2 < 100) : ∃ l, keyOf Tryd.prog 39 (oaK x) = some l := by
  obtain ⟨a, b, c, d⟩ := x
  refine keyOf_array (zs := [(a : Int), (b : Int), c, d]) Tryd.underlying39 Tryd.underlying3 (by kernel_rfl) (by kernel_rfl) (by kernel_rfl) (of_decide_eq_true (by kernel_rfl)) rfl (fun z hz => ?_)
  simp only [List.mem_cons, List.not_mem_nil, or_false] at hz
  simp only at h1 h2 h3 h4
  refine WalkArith.wf_i64 ?_
  rcases hz with rfl | rfl | rfl | rfl <;> omega
theorem oaZero (w : World) : (zeroValue 3).run Tryd.prog w = .ok (.int .i64 0) w := by kernel_rfl

/-- What Right tells. -/
def OaRightPost (q : Int) (rows : List (List Int)) (e : Ending) : Prop :=
  (¬ qok q ∧ e = .returned (.tuple #[.bool false, .iface 23 (.int .i64 1)])) ∨
  (qok q ∧ ∃ n : Nat, q = n ∧ ¬ oaForm n rows ∧ e = .returned (.tuple #[.bool false, .iface 23 (.int .i64 3)])) ∨
  (qok q ∧ ∃ (n : Nat) (b : Bool), q = n ∧ oaForm n rows ∧ e = .returned (.tuple #[.bool b, .nilIface]) ∧ (b = true ↔ oaOnce rows ∧ rows.length = n * n))
set_option maxHeartbeats 2000000 in
set_option maxRecDepth 100000 in
theorem oaright_any (q : Int) (rows : List (List Int)) (ao : Option Addr) (cp : Nat) (W : World) (hx : RowsAt W ao rows) (hl : rows.length ≤ maxLen) :
    Calls Tryd.prog 7 #[.int .i64 q, .slice ao rows.length cp] W fun e w' => OaRightPost q rows e ∧ Below W.heap.size W w' := by
  have HX := Lib.hid hx
  unfold maxLen at hl
  clear hx
  have hmm := @run_makeMap Tryd.prog
  go_enter Tryd.func7, Tryd.ntmps7
  go_wp2_with fail
  refine (oacheck_any q W).mono ?_
  rintro e w1 ⟨⟨hq, rfl⟩ | ⟨hq, rfl⟩, hb1⟩
  rotate_left
  · have HQ := Lib.hid hq
    have HB := Lib.hid hb1
    clear hq hb1
    go_wp2_with fail
    go_ret2
    exact ⟨.inl ⟨HQ.out, rfl⟩, HB.out⟩
  obtain ⟨n, rfl⟩ : ∃ n : Nat, q = n := ⟨q.toNat, by rcases hq with rfl | rfl | rfl | rfl <;> rfl⟩
  have hn7 : n ≤ 7 := by rcases hq with h | h | h | h <;> omega
  have hn2 : 2 ≤ n := by rcases hq with h | h | h | h <;> omega
  have HQ := Lib.hid hq
  have HB1 := Lib.hid hb1
  clear hq hb1
  go_wp2_with fail
  go_loop [23] (fun iv => ∃ i : Nat, iv = .int .i64 i ∧ i ≤ rows.length ∧ RowKit.Hid (∀ j, j < i → (rows.getD j []).length = n + 1 ∧ ∀ z ∈ rows.getD j [], 0 ≤ z ∧ z < n)) (fun iv => rows.length - (intOf iv).toNat)
  case atStart => exact ⟨0, rfl, by omega, Lib.hid (fun j hj => by omega)⟩
  case round =>
    obtain ⟨i, rfl, hi, hform⟩ := hrel
    by_cases hil : i < rows.length
    · obtain ⟨b, o, ro, rc, hae, hrl, _, _, hri, hcell⟩ := HX.out.get (j := i) hil
      subst hae
      have hc := hcell w1 HB1.out
      have hri1 := hri.below (Nat.le_refl _) HB1.out
      obtain ⟨r, hr⟩ : ∃ r, r = rows.getD i [] := ⟨_, rfl⟩
      rw [← hr] at hc hri1 hrl
      have HR := Lib.hid hr
      have hno : (¬ (r.length = n + 1 ∧ ∀ z ∈ r, 0 ≤ z ∧ z < n)) → ¬ oaForm n rows := fun h hf => h (hf r (by rw [HR.out]; simp [hil]))
      have HNO := Lib.hid hno
      clear hr hri hcell hno
      by_cases hlen : r.length = n + 1
      · have hbn : ((r.length : Int) != (n : Int) + 1) = false := by rw [bne_eq_false_iff_eq]; omega
        have HMin := Lib.hid (min_any r ro rc w1 hri1 hrl (by omega))
        have HMax := Lib.hid (max_any r ro rc w1 hri1 hrl (by omega))
        unfold maxLen at hrl
        have HLEN := Lib.hid hlen
        clear hri1 hlen
        go_wp2_with fail
        refine HMin.out.mono ?_
        clear HMin
        rintro e w2 ⟨⟨z, rfl, hz⟩, rfl⟩
        have HZ := Lib.hid hz
        clear hz
        by_cases hz0 : z < 0
        · have hd : decide (z < 0) = true := decide_eq_true hz0
          go_wp2_with fail
          go_ret2
          exact ⟨.inr (.inl ⟨HQ.out, n, rfl, HNO.out (fun h => by have := (h.2 z HZ.out.1).1; omega), rfl⟩), HB1.out⟩
        · have hd : decide (z < 0) = false := decide_eq_false hz0
          go_wp2_with fail
          refine HMax.out.mono ?_
          clear HMax
          rintro e w2 ⟨⟨y, rfl, hy⟩, rfl⟩
          have HY := Lib.hid hy
          clear hy
          by_cases hy0 : (n : Int) ≤ y
          · have hd2 : decide ((n : Int) ≤ y) = true := decide_eq_true hy0
            go_wp2_with fail
            go_ret2
            exact ⟨.inr (.inl ⟨HQ.out, n, rfl, HNO.out (fun h => by have := (h.2 y HY.out.1).2; omega), rfl⟩), HB1.out⟩
          · have hd2 : decide ((n : Int) ≤ y) = false := decide_eq_false hy0
            have HF := Lib.hid (show ∀ j, j < i + 1 → (rows.getD j []).length = n + 1 ∧ ∀ z ∈ rows.getD j [], 0 ≤ z ∧ z < n from fun j hj => by
              by_cases e : j = i
              · rw [e, ← HR.out]
                exact ⟨HLEN.out, fun u hu => by have h1 := HZ.out.2 u hu; have h2 := HY.out.2 u hu; omega⟩
              · exact hform.out j (by omega))
            clear hform
            go_wp2_with fail
            go_round
            case rel => exact ⟨i + 1, by go_num, by omega, HF⟩
            case measure => simp [intOf]; omega
      · have hbn : ((r.length : Int) != (n : Int) + 1) = true := by rw [bne_iff_ne]; omega
        unfold maxLen at hrl
        go_wp2_with fail
        go_ret2
        exact ⟨.inr (.inl ⟨HQ.out, n, rfl, HNO.out (fun h => hlen h.1), rfl⟩), HB1.out⟩
    · have HF := Lib.hid (show oaForm n rows from fun r hr => by
        obtain ⟨j, hj, rfl⟩ := List.mem_iff_getElem.1 hr
        have := hform.out j (by omega)
        simpa [hj] using this)
      clear hform
      go_wp2_with fail
      go_loopw [48] (fun iv wr => ∃ i : Nat, iv = .int .i64 i ∧ i ≤ rows.length ∧ RowKit.Hid (HasMap Tryd.prog 39 oaK wr w1.heap.size (oaF (keysOf (rows.take i)))) ∧ RowKit.Hid (Below w1.heap.size w1 wr)) (fun iv _ => rows.length - (intOf iv).toNat)
      case atStart => exact ⟨0, rfl, by omega, Lib.hid ((HasMap.made _ _ _ _).to rfl (fun x => oaF_empty x)), Lib.hid ((Below.refl _ _).alloc (Nat.le_refl _) _)⟩
      case round =>
        obtain ⟨i, rfl, hi, hm, hb⟩ := hrel
        by_cases hil : i < rows.length
        · obtain ⟨b, o, ro, rc, hae, hrl, _, _, hri, hcell⟩ := HX.out.get (j := i) hil
          subst hae
          have hc := hcell wr (HB1.out.trans (hb.out.mono HB1.out.size))
          have HF2 := Lib.hid (HF.out (rows.getD i []) (by simp [hil]))
          have HTK := Lib.hid (keysOf_succ hil)
          have HTL := Lib.hid (show (rows.take i).length = i by rw [List.length_take]; omega)
          obtain ⟨r, hr⟩ : ∃ r, r = rows.getD i [] := ⟨_, rfl⟩
          rw [← hr] at hc hri hrl HTK HF2
          have hrn : r.length = n + 1 := HF2.out.1
          have HRN := Lib.hid hrn
          have HRI := Lib.hid hri
          rw [hrn] at hc
          have HMM := Lib.hid hm.out
          have HBB := Lib.hid hb.out
          clear hr hri hcell hm hb hrn hrl
          go_wp2_with fail
          go_loopw [54] (fun av wr => ∃ a : Nat, av = .int .i64 a ∧ a ≤ n + 1 ∧ RowKit.Hid (HasMap Tryd.prog 39 oaK wr w1.heap.size (oaF (keysOf (rows.take i) ++ keysR r a 0))) ∧ RowKit.Hid (Below w1.heap.size w1 wr)) (fun av _ => n + 1 - (intOf av).toNat)
          case atStart => exact ⟨0, rfl, by omega, Lib.hid (by simpa [keysR] using HMM.out), HBB⟩
          clear HMM HBB
          case round =>
            obtain ⟨a, rfl, ha, hm, hb⟩ := hrel
            by_cases han : a < n + 1
            · have HMM := Lib.hid hm.out
              have HBB := Lib.hid hb.out
              clear hm hb
              go_wp2_with fail
              go_loopw [58] (fun bv wr => ∃ b : Nat, bv = .int .i64 b ∧ b ≤ a ∧ RowKit.Hid (HasMap Tryd.prog 39 oaK wr w1.heap.size (oaF (keysOf (rows.take i) ++ keysR r a b))) ∧ RowKit.Hid (Below w1.heap.size w1 wr)) (fun bv _ => a - (intOf bv).toNat)
              case atStart => exact ⟨0, rfl, by omega, HMM, HBB⟩
              clear HMM HBB
              case round =>
                obtain ⟨b2, rfl, hb2, hm, hb⟩ := hrel
                by_cases hba : b2 < a
                · obtain ⟨bb, oo, hre, hca⟩ := HRI.out.below (Nat.le_refl _) (HB1.out.trans (hb.out.mono HB1.out.size)) a (by rw [HRN.out]; omega)
                  obtain ⟨bb', oo', hre', hcb⟩ := HRI.out.below (Nat.le_refl _) (HB1.out.trans (hb.out.mono HB1.out.size)) b2 (by rw [HRN.out]; omega)
                  subst hre
                  cases hre'
                  have hza := HF2.out.2 (r.getD a 0) (by simp [show a < r.length by rw [HRN.out]; omega])
                  have hzb := HF2.out.2 (r.getD b2 0) (by simp [show b2 < r.length by rw [HRN.out]; omega])
                  obtain ⟨l, hl⟩ := oaKey_legal (keyAt r a b2) (by show a < 100; omega) (by show b2 < 100; omega) (by show 0 ≤ r.getD a 0 ∧ r.getD a 0 < 100; omega) (by show 0 ≤ r.getD b2 0 ∧ r.getD b2 0 < 100; omega)
                  have hcnt := count_new (rows.take i) r a b2
                  rw [HTL.out] at hcnt
                  have hbump := HasMap.bump (hm.out.keep (w' := wr.drew) rfl) oaKeyed Tryd.underlying38 oaK_inj oaZero hl (.int .i64 (((keysOf (rows.take i) ++ keysR r a b2).count (keyAt r a b2) : Nat) + 1))
                  rw [oaF_getD] at hbump
                  obtain ⟨st, w2, w4, e1, e2, e3, e4, hm4, hg4, hs4⟩ := hbump
                  have HN := Lib.hid (oaF_next (keysOf (rows.take i) ++ keysR r a b2) (keyAt r a b2))
                  have HKN := Lib.hid (keysR_next r a b2)
                  obtain ⟨L, hL⟩ : ∃ L, L = keysOf (rows.take i) ++ keysR r a b2 := ⟨_, rfl⟩
                  rw [← hL] at hcnt e1 e2 e3 e4 hm4 HN
                  have HL := Lib.hid hL
                  have hKe : oaK (keyAt r a b2) = .agg #[.int .i64 (a : Int), .int .i64 (b2 : Int), .int .i64 (r.getD a 0), .int .i64 (r.getD b2 0)] := rfl
                  rw [hKe] at e1 e2 e3
                  obtain ⟨ct, hct⟩ : ∃ ct, ct = L.count (keyAt r a b2) := ⟨_, rfl⟩
                  rw [← hct] at e1 e2 e3 e4 hm4 HN hcnt
                  obtain ⟨za, hzae⟩ : ∃ za, za = r.getD a 0 := ⟨_, rfl⟩
                  obtain ⟨zb, hzbe⟩ : ∃ zb, zb = r.getD b2 0 := ⟨_, rfl⟩
                  rw [← hzae] at hca e1 e2 e3
                  rw [← hzbe] at hcb e1 e2 e3
                  have HM4 := Lib.hid hm4
                  have HB4 := Lib.hid ((below_drewN hb.out 1).grown hg4 hb.out.size (fun k hk => by cases hk; exact Nat.le_refl _))
                  clear hm hb hL hct hl hm4 hg4 hs4 hza hzb hzae hzbe hKe
                  go_wp2_with fail
                  go_region
                  have HLN := Lib.hid (show keysOf (rows.take i) ++ keysR r a (b2 + 1) = L ++ [keyAt r a b2] by rw [HKN.out, ← List.append_assoc, ← HL.out])
                  all_goals
                    go_wp2_with fail
                    go_roundw
                    case rel => exact ⟨b2 + 1, by go_num, by omega, Lib.hid (by rw [HLN.out]; exact HM4.out.to rfl HN.out), HB4⟩
                    case measure => simp [intOf]; omega
                · obtain rfl : b2 = a := by omega
                  have HM2 := Lib.hid (show HasMap Tryd.prog 39 oaK wr w1.heap.size (oaF (keysOf (rows.take i) ++ keysR r (b2 + 1) 0)) by rw [keysR_row]; exact hm.out)
                  have HB2 := Lib.hid hb.out
                  clear hm hb
                  go_wp2_with fail
                  go_roundw
                  case rel => exact ⟨b2 + 1, by go_num, by omega, HM2, HB2⟩
                  case measure => simp [intOf]; omega
            · obtain rfl : a = n + 1 := by omega
              have HM2 := Lib.hid (show HasMap Tryd.prog 39 oaK wr w1.heap.size (oaF (keysOf (rows.take (i + 1)))) by rw [HTK.out, HRN.out]; exact hm.out)
              have HB2 := Lib.hid hb.out
              clear hm hb
              go_wp2_with fail
              go_roundw
              case rel => exact ⟨i + 1, by go_num, by omega, HM2, HB2⟩
              case measure => simp [intOf]; omega
        · have hte : rows.take i = rows := List.take_of_length_le (by omega)
          have hm' := hm.out
          rw [hte] at hm'
          obtain ⟨es, clock, hmf⟩ := hm'
          have HMF := Lib.hid hmf
          obtain ⟨w3, hw3⟩ : ∃ w3, w3 = wr := ⟨_, rfl⟩
          subst hw3
          have hblk := hmf.block
          have HBB := Lib.hid hb.out
          have hbs := hb.out.size
          have HST := Lib.hid (show (w3.alloc (.mapIter (some w1.heap.size) clock #[] clock)).heap[w3.heap.size]? = some (.mapIter (some w1.heap.size) clock #[] clock) ∧ (w3.alloc (.mapIter (some w1.heap.size) clock #[] clock)).heap[w1.heap.size]? = some (.map es clock) ∧ (∀ e ∈ es.toList, e.born ∈ (#[] : Array Nat).toList → e.val = .int .i64 1) ∧ Below w1.heap.size w1 (w3.alloc (.mapIter (some w1.heap.size) clock #[] clock)) from
            ⟨Go.heap_alloc_new _ _, (Go.heap_alloc_old _ _ (Array.getElem?_eq_some_iff.1 hblk).1).trans hblk, fun e _ h => by simp at h, HBB.out.alloc hbs _⟩)
          have hne : w3.heap.size ≠ w1.heap.size := fun h => by have := (Array.getElem?_eq_some_iff.1 hblk).1; omega
          clear hm hb hte hmf
          go_wp2_with (at_range; refine wpList_range_raw _ rfl _ 38 rfl 39 3 Tryd.underlying38 w1.heap.size es clock rfl hblk ?_)
          clear hblk
          go_loopg [15] (leftOf es #[]).size (fun gk _ w5 => ∃ seen : Array Nat, gk = (leftOf es seen).size ∧ RowKit.Hid (w5.heap[w3.heap.size]? = some (.mapIter (some w1.heap.size) clock seen clock) ∧ w5.heap[w1.heap.size]? = some (.map es clock) ∧ (∀ e ∈ es.toList, e.born ∈ seen.toList → e.val = .int .i64 1) ∧ Below w1.heap.size w1 w5))
          case atStart => exact ⟨#[], rfl, HST⟩
          clear HST
          case round =>
            obtain ⟨seen, rfl, hst⟩ := hrel
            obtain ⟨hr1, hr2, hr3, hr4⟩ := hst.out
            have HR3 := Lib.hid hr3
            have HR4 := Lib.hid hr4
            have HR1 := Lib.hid hr1
            have HR2 := Lib.hid hr2
            clear hr3 hr4 hst
            go_wp2_with (at_next; refine wpList_next_raw _ rfl _ rfl w1.heap.size w3.heap.size clock clock seen es clock rfl HR1.out HR2.out HMF.out.stamped.1 (Nat.le_refl _) ?_ ?_)
            · intro h0
              have HON := Lib.hid (show oaOnce rows from nodup_of_counts (fun x hx => by
                have hc : (keysOf rows).count x ≠ 0 := fun h => List.count_eq_zero.1 h hx
                obtain ⟨e, he, _, hv⟩ := HMF.out.has x (.int .i64 ((keysOf rows).count x)) (by unfold oaF; rw [if_neg hc])
                have h1 := HR3.out e he (left_none (by rw [h0]; rfl) e he)
                rw [h1] at hv
                simp only [Value.int.injEq, true_and] at hv
                omega))
              clear hr1 hr2 h0
              have hnn : n * n ≤ 49 := Nat.mul_le_mul hn7 hn7
              have hnn1 : (n : Int) * (n : Int) ≤ 49 := by exact_mod_cast hnn
              have hnn0 : (0 : Int) ≤ (n : Int) * (n : Int) := by exact_mod_cast Nat.zero_le (n * n)
              by_cases hlen : rows.length = n * n
              · have hb : ((rows.length : Int) == (n : Int) * (n : Int)) = true := by rw [beq_iff_eq, hlen]; simp
                have HLN := Lib.hid hlen
                clear hlen hnn
                go_wp2_with fail
                go_ret2
                exact ⟨.inr (.inr ⟨HQ.out, n, true, rfl, HF.out, rfl, ⟨fun _ => ⟨HON.out, HLN.out⟩, fun _ => rfl⟩⟩), HB1.out.trans (HR4.out.mono HB1.out.size)⟩
              · have hb : ((rows.length : Int) == (n : Int) * (n : Int)) = false := by
                  rw [beq_eq_false_iff_ne]
                  intro h
                  exact hlen (by exact_mod_cast h)
                have HLN := Lib.hid hlen
                clear hlen hnn
                go_wp2_with fail
                go_ret2
                exact ⟨.inr (.inr ⟨HQ.out, n, false, rfl, HF.out, rfl, ⟨fun h => (by cases h), fun h => absurd h.2 HLN.out⟩⟩), HB1.out.trans (HR4.out.mono HB1.out.size)⟩
            · intro x w5 hx hw5
              have hx' : x ∈ (leftOf es seen).toList := by simpa using hx
              have hlt := left_push hx'
              have hmem : x ∈ es.toList := by
                unfold leftOf at hx'
                simp only [Array.mem_toList_iff, Array.mem_filter] at hx'
                simpa using hx'.1
              obtain ⟨key, hk, hv⟩ := HMF.out.holds x hmem
              have hcv : ∃ c : Nat, x.val = .int .i64 c ∧ c = (keysOf rows).count key ∧ c ≠ 0 := by
                unfold oaF at hv
                split at hv
                · cases hv
                · rename_i h0; exact ⟨_, (Option.some.inj hv).symm, rfl, h0⟩
              obtain ⟨c, hc, hcc, hc0⟩ := hcv
              have hcl := count_keysOf rows key
              rw [← hcc] at hcl
              have hh5 : w5.heap = wr.heap := by rcases hw5 with rfl | rfl <;> rfl
              obtain ⟨w6, hw6⟩ : ∃ w6, w6 = ChangeMaps.setBlock w5 w3.heap.size (.mapIter (some w1.heap.size) clock (seen.push x.born) clock) := ⟨_, rfl⟩
              have h61 : w6.heap[w3.heap.size]? = some (.mapIter (some w1.heap.size) clock (seen.push x.born) clock) := by
                rw [hw6]
                unfold ChangeMaps.setBlock
                have := (Array.getElem?_eq_some_iff.1 HR1.out).1
                simp [hh5, this]
              have h62 : w6.heap[w1.heap.size]? = some (.map es clock) := by
                rw [hw6]
                unfold ChangeMaps.setBlock
                simp only [Array.getElem?_setIfInBounds]
                rw [if_neg hne, hh5]
                exact HR2.out
              have hen := run_entry_at (P := Tryd.prog) w6 w3.heap.size w1.heap.size clock seen es clock x h61 h62 hmem HMF.out.stamped.2.1
              have HB6 := Lib.hid (show Below w1.heap.size w1 w6 from by
                rw [hw6]
                have h5 : Below w1.heap.size w1 w5 := by
                  rcases hw5 with rfl | rfl
                  · exact HR4.out
                  · exact below_drewN HR4.out 1
                refine h5.trans ⟨rfl, rfl, rfl, by simp [ChangeMaps.setBlock], fun k hk => ?_⟩
                unfold ChangeMaps.setBlock
                simp only [Array.getElem?_setIfInBounds]
                rw [if_neg (by omega)])
              rw [← hw6]
              rw [hk, hc] at hen ⊢
              have HLT := Lib.hid hlt
              have HX6 := Lib.hid (And.intro h61 h62)
              have HC := Lib.hid hc
              have HCC := Lib.hid hcc
              have HMEM := Lib.hid hmem
              clear hw6 hh5 hw5 hx hx' hlt hmem hk hv hc hcc h61 h62 hr1 hr2
              have hKe : oaK key = .agg #[.int .i64 key.1, .int .i64 key.2.1, .int .i64 key.2.2.1, .int .i64 key.2.2.2] := rfl
              by_cases h1 : c = 1
              · subst h1
                go_wp2_with fail
                go_roundg ((leftOf es (seen.push x.born)).size)
                case measure => exact HLT.out
                case rel =>
                  refine ⟨_, rfl, Lib.hid ⟨HX6.out.1, HX6.out.2, fun e he hb => ?_, HB6.out⟩⟩
                  simp only [Array.toList_push, List.mem_append, List.mem_singleton] at hb
                  rcases hb with hb | hb
                  · exact HR3.out e he hb
                  · have hst := HMF.out.stamped
                    obtain ⟨i1, hi1, ei1⟩ := List.getElem_of_mem he
                    obtain ⟨i2, hi2, ei2⟩ := List.getElem_of_mem HMEM.out
                    have := born_eq hst (i := i1) (j := i2) (a := e) (c := x) (by rw [List.getElem?_eq_getElem hi1, ei1]) (by rw [List.getElem?_eq_getElem hi2, ei2]) hb
                    subst this
                    rw [← ei1, ei2]
                    exact HC.out
              · have hb : ((c : Int) != 1) = true := by rw [bne_iff_ne]; omega
                have HNO := Lib.hid (show ¬ oaOnce rows from fun ho => by
                  have h2 := List.nodup_iff_count.1 ho key
                  rw [← HCC.out] at h2
                  omega)
                go_wp2_with fail
                go_ret2
                exact ⟨.inr (.inr ⟨HQ.out, n, false, rfl, HF.out, rfl, ⟨fun h => (by cases h), fun h => absurd h.1 HNO.out⟩⟩), HB1.out.trans (HB6.out.mono HB1.out.size)⟩
end Go.Proofs.YtmcbplklopejlaaDoor
