/- assayerref1.Told at a desk's expression. assayerref1.Bad at a desk's expression. assayerref2.ExprOf. assayerref2.texts. -/
import Derived.Test.YtalbllijahiiiaaGreatDoorDkBB
import Derived.Deep.RegionLaw
section
namespace Go.Proofs.YtalbllijahiiiaaGreatDoor
open Go.RowKit Go.Mine Go.Mine.Desk

set_option maxRecDepth 100000 in
set_option maxHeartbeats 4000000 in
theorem Told_whole (n : Int) (eb : Nat) (v : Value) (x : V) (B0 : Nat) (w : World) (he : ExprAt w eb n) (hv : ValAt w B0 v x) (hx : VOk x) : Calls Tryz.prog 100 #[wholeE eb, v] w fun e w' => e = .returned (.tuple #[.int .i64 (verdict n x), .bool true]) ∧ Below w.heap.size w w' := by
  obtain ⟨vk, vz, vao, vn, vc, hsh⟩ := hv.shape
  obtain ⟨w0, hw0⟩ : ∃ w0, w0 = (w.alloc (.cells #[.int .i64 7, .int .i64 0, .slice (some ⟨eb, 0, none⟩) 2 2] 41)).alloc (.cells #[.bool vk, .int .i64 vz, .slice vao vn vc] 53) := ⟨_, rfl⟩
  have hb0 : Below w.heap.size w w0 := by rw [hw0]; exact ((Below.refl w.heap.size w).alloc (Nat.le_refl _) _).alloc (by simp) _
  obtain ⟨B, hB⟩ : ∃ B, w.heap.size = B := ⟨_, rfl⟩
  have kb : Blk w0 B 41 #[.int .i64 7, .int .i64 0, .slice (some ⟨eb, 0, none⟩) 2 2] := by rw [hw0, ← hB]; exact (Blk.new _ _ _).alloc _
  have kv : Blk w0 (B + 1) 53 #[.bool vk, .int .i64 vz, .slice vao vn vc] := by rw [hw0, ← hB]; have := Blk.new (w.alloc (.cells #[.int .i64 7, .int .i64 0, .slice (some ⟨eb, 0, none⟩) 2 2] 41)) 53 #[.bool vk, .int .i64 vz, .slice vao vn vc]; simpa using this
  have ke : Blk w0 eb _ _ := (show Blk w eb _ _ from he).below hb0
  have HL := Lib.hid (Leaves_any x v B0 w0 (hv.below hb0) hx)
  have HK := Lib.hid (And.intro hb0 (And.intro kb (And.intro kv (And.intro ke (hv.below hb0)))))
  have HBB := Lib.hid hB
  have HW := Lib.hid hw0
  have HSH := Lib.hid hsh
  rw [hsh, hw0] at HL
  rw [hsh]
  clear hv hw0 hb0 kb kv ke hB hsh he
  go_enter Tryz.func100, Tryz.ntmps100
  go_wp2_with fail
  refine HL.out.mono ?_
  clear HL
  rintro e w1 ⟨⟨u, rfl, hown⟩, hb1⟩
  rw [← HW.out] at hb1
  have kb1 := HK.out.2.1.below hb1
  have kv1 := HK.out.2.2.1.below hb1
  have ke1 := HK.out.2.2.2.1.below hb1
  have hv1 := HK.out.2.2.2.2.below hb1
  have e0 : w1.cell? ⟨B, 0, none⟩ = some (.int .i64 7) := kb1.cell 0
  have e2 : w1.cell? ⟨B, 2, none⟩ = some (.slice (some ⟨eb, 0, none⟩) 2 2) := kb1.cell 2
  have v0 : w1.cell? ⟨B + 1, 0, none⟩ = some (.bool vk) := kv1.cell 0
  have v1 : w1.cell? ⟨B + 1, 1, none⟩ = some (.int .i64 vz) := kv1.cell 1
  have v2 : w1.cell? ⟨B + 1, 2, none⟩ = some (.slice vao vn vc) := kv1.cell 2
  have x0 : w1.cell? ⟨eb, 0, none⟩ = some (.int .i64 2) := ke1.cell 0
  have x1 : w1.cell? ⟨eb, 1, none⟩ = some (.int .i64 0) := ke1.cell 1
  have x2 : w1.cell? ⟨eb, 2, none⟩ = some (.slice none 0 0) := ke1.cell 2
  have HT := Lib.hid (fun q => Told_sum 0 v x B0 (w1.drewN q) hv1 hx)
  rw [HSH.out] at HT
  have H1 := Lib.hid (And.intro (HK.out.1.trans (hb1.mono HK.out.1.size)) (And.intro kb1 (And.intro kv1 (And.intro ke1 hv1))))
  obtain ⟨tx, htx⟩ : ∃ tx, tx = total x := ⟨_, rfl⟩
  rw [← htx] at HT
  have HTX := Lib.hid htx
  rw [HBB.out]
  clear hb1 kb1 kv1 ke1 hv1 hown htx
  go_wp2_with fail
  go_cut [10, 11] from 66 to 74 (fun av iv wx => av = .int .i64 tx ∧ iv = .bool true ∧ RowKit.Hid (Below w1.heap.size w1 wx))
  case first =>
    go_region_law (go_simp; go_at_call 100; refine (HT.out _).mono ?_; rintro e w9 ⟨rfl, hb9⟩)
    all_goals
      have HB9 := Lib.hid (show Below w1.heap.size w1 w9 from ((Below.refl _ w1).drew).trans hb9)
      clear hb9
      go_wp2_with fail
      go_meet
      case rel => exact ⟨rfl, rfl, HB9⟩
  case rest =>
    obtain ⟨rfl, rfl, HC⟩ := hcut
    have kb2 := H1.out.2.1.below HC.out
    have kv2 := H1.out.2.2.1.below HC.out
    have ke2 := H1.out.2.2.2.1.below HC.out
    have e0' : wc.cell? ⟨B, 0, none⟩ = some (.int .i64 7) := kb2.cell 0
    have e2' : wc.cell? ⟨B, 2, none⟩ = some (.slice (some ⟨eb, 0, none⟩) 2 2) := kb2.cell 2
    have v0' : wc.cell? ⟨B + 1, 0, none⟩ = some (.bool vk) := kv2.cell 0
    have v1' : wc.cell? ⟨B + 1, 1, none⟩ = some (.int .i64 vz) := kv2.cell 1
    have v2' : wc.cell? ⟨B + 1, 2, none⟩ = some (.slice vao vn vc) := kv2.cell 2
    have y0 : wc.cell? ⟨eb, 3, none⟩ = some (.int .i64 1) := ke2.cell 3
    have y1 : wc.cell? ⟨eb, 4, none⟩ = some (.int .i64 n) := ke2.cell 4
    have y2 : wc.cell? ⟨eb, 5, none⟩ = some (.slice none 0 0) := ke2.cell 5
    have HT2 := Lib.hid (fun q => Told_lit n v x B0 (wc.drewN q) (H1.out.2.2.2.2.below (below_drewN HC.out q)) hx)
    rw [HSH.out] at HT2
    have H2 := Lib.hid (And.intro (H1.out.1.trans (HC.out.mono H1.out.1.size)) kb2)
    clear kb2 kv2 ke2 e0 e2 v0 v1 v2 x0 x1 x2
    go_wp2_with fail
    go_cut [12, 13] from 106 to 114 (fun av iv wx => av = .int .i64 n ∧ iv = .bool true ∧ RowKit.Hid (Below wc.heap.size wc wx))
    case first =>
      go_region_law (go_simp; go_at_call 100; refine (HT2.out _).mono ?_; rintro e w9 ⟨rfl, hb9⟩)
      all_goals
        have HB9 := Lib.hid (show Below wc.heap.size wc w9 from ((Below.refl _ wc).drew).trans hb9)
        clear hb9
        go_wp2_with fail
        go_meet
        case rel => exact ⟨rfl, rfl, HB9⟩
    case rest =>
      obtain ⟨rfl, rfl, HD⟩ := hcut
      have kb3 := H2.out.2.below HD.out
      have e0'' : wc.cell? ⟨B, 0, none⟩ = some (.int .i64 7) := kb3.cell 0
      have HB9 := Lib.hid (H2.out.1.trans (HD.out.mono H2.out.1.size))
      clear kb3 e0' e2' v0' v1' v2' y0 y1 y2
      by_cases hlt : tx < n
      · have HV := Lib.hid (show verdict n x = 1 by unfold verdict; rw [← HTX.out, if_pos hlt])
        have d1 : decide (tx < n) = true := decide_eq_true hlt
        have HO := Lib.hid (one_any true wc)
        go_wp2_with fail
        refine HO.out.mono ?_
        rintro e w5 ⟨rfl, rfl⟩
        go_wp2_with fail
        go_ret2
        exact ⟨by rw [HV.out]; rfl, HB9.out⟩
      · have HV := Lib.hid (show verdict n x = 0 by unfold verdict; rw [← HTX.out, if_neg hlt])
        have d1 : decide (tx < n) = false := decide_eq_false hlt
        have HO := Lib.hid (one_any false wc)
        go_wp2_with fail
        refine HO.out.mono ?_
        rintro e w5 ⟨rfl, rfl⟩
        go_wp2_with fail
        go_ret2
        exact ⟨by rw [HV.out]; rfl, HB9.out⟩
end Go.Proofs.YtalbllijahiiiaaGreatDoor
end

section
namespace Go.Proofs.YtalbllijahiiiaaGreatDoor
open Go.RowKit Go.Mine Go.Mine.Desk

set_option maxRecDepth 100000 in
set_option maxHeartbeats 2000000 in
theorem Bad_any (n : Int) (eb : Nat) (v : Value) (x : V) (B0 : Nat) (w : World) (he : ExprAt w eb n) (hv : ValAt w B0 v x) (hx : VOk x) : Calls Tryz.prog 73 #[wholeE eb, v] w fun e w' => e = .returned (.bool (decide (n ≤ total x))) ∧ Below w.heap.size w w' := by
  obtain ⟨vk, vz, vao, vn, vc, hsh⟩ := hv.shape
  obtain ⟨w0, hw0⟩ : ∃ w0, w0 = (w.alloc (.cells #[.int .i64 7, .int .i64 0, .slice (some ⟨eb, 0, none⟩) 2 2] 41)).alloc (.cells #[.bool vk, .int .i64 vz, .slice vao vn vc] 53) := ⟨_, rfl⟩
  have hb0 : Below w.heap.size w w0 := by rw [hw0]; exact ((Below.refl w.heap.size w).alloc (Nat.le_refl _) _).alloc (by simp) _
  have HT := Lib.hid (Told_whole n eb v x B0 w0 ((show Blk w eb _ _ from he).below hb0) (hv.below hb0) hx)
  have HK := Lib.hid hb0
  have HW := Lib.hid hw0
  rw [hsh, hw0] at HT
  rw [hsh]
  clear hv hw0 hb0 hsh he
  go_enter Tryz.func73, Tryz.ntmps73
  go_wp2_with fail
  refine HT.out.mono ?_
  clear HT
  rintro e w1 ⟨rfl, hb1⟩
  rw [← HW.out] at hb1
  have HB1 := Lib.hid (HK.out.trans (hb1.mono HK.out.size))
  clear hb1
  by_cases hlt : total x < n
  · have HV := Lib.hid (show decide (n ≤ total x) = false from decide_eq_false (by omega))
    rw [show verdict n x = 1 by unfold verdict; rw [if_pos hlt]]
    clear hlt
    go_wp2_with fail
    go_ret
    exact ⟨by rw [HV.out]; rfl, HB1.out⟩
  · have HV := Lib.hid (show decide (n ≤ total x) = true from decide_eq_true (by omega))
    rw [show verdict n x = 0 by unfold verdict; rw [if_neg hlt]]
    clear hlt
    go_wp2_with fail
    go_ret
    exact ⟨by rw [HV.out]; rfl, HB1.out⟩
end Go.Proofs.YtalbllijahiiiaaGreatDoor
end

section
namespace Go.Proofs.YtalbllijahiiiaaGreatDoor
open Go.RowKit Go.Mine Go.Mine.Desk

set_option maxRecDepth 100000 in
theorem ExprOf_any (n : Int) (w : World) : Calls Tryz.prog 25 #[.int .i64 n] w fun e w' => (∃ eb, e = .returned (wholeE eb) ∧ w.heap.size ≤ eb ∧ ExprAt w' eb n) ∧ Below w.heap.size w w' := by
  go_enter Tryz.func25, Tryz.ntmps25
  go_wp2_with fail
  have hb : Below w.heap.size w ((w.alloc (.cells #[.int .i64 7, .int .i64 0, .slice (some ⟨w.heap.size + 1, 0, none⟩) 2 2] 41)).alloc (.cells #[.int .i64 2, .int .i64 0, .slice none 0 0, .int .i64 1, .int .i64 n, .slice none 0 0] 41)) := ((Below.refl w.heap.size w).alloc (Nat.le_refl _) _).alloc (by simp) _
  have k0 : Blk ((w.alloc (.cells #[.int .i64 7, .int .i64 0, .slice (some ⟨w.heap.size + 1, 0, none⟩) 2 2] 41)).alloc (.cells #[.int .i64 2, .int .i64 0, .slice none 0 0, .int .i64 1, .int .i64 n, .slice none 0 0] 41)) w.heap.size 41 #[.int .i64 7, .int .i64 0, .slice (some ⟨w.heap.size + 1, 0, none⟩) 2 2] := (Blk.new _ _ _).alloc _
  have k1 : Blk ((w.alloc (.cells #[.int .i64 7, .int .i64 0, .slice (some ⟨w.heap.size + 1, 0, none⟩) 2 2] 41)).alloc (.cells #[.int .i64 2, .int .i64 0, .slice none 0 0, .int .i64 1, .int .i64 n, .slice none 0 0] 41)) (w.heap.size + 1) 41 #[.int .i64 2, .int .i64 0, .slice none 0 0, .int .i64 1, .int .i64 n, .slice none 0 0] := by have := Blk.new (w.alloc (.cells #[.int .i64 7, .int .i64 0, .slice (some ⟨w.heap.size + 1, 0, none⟩) 2 2] 41)) 41 #[.int .i64 2, .int .i64 0, .slice none 0 0, .int .i64 1, .int .i64 n, .slice none 0 0]; simpa using this
  have d0 := k0.cell 0
  have d1 := k0.cell 1
  have d2 := k0.cell 2
  simp only [List.getElem?_toArray, List.getElem?_cons_zero, List.getElem?_cons_succ] at d0 d1 d2
  refine bodyPost_ret (v := wholeE (w.heap.size + 1)) (by simp [results, Tryz.results25, go_sem, d0, d1, d2]) rfl ⟨⟨w.heap.size + 1, rfl, by omega, k1⟩, hb⟩
end Go.Proofs.YtalbllijahiiiaaGreatDoor
end

section
namespace Go.Proofs.YtalbllijahiiiaaGreatDoor
open Go.RowKit Go.Mine Go.Mine.Desk

def TapesIn (w : World) (ao : Option Addr) (l : List (List Int)) : Prop := ∀ j, j < l.length → ∃ b o ro rc, ao = some ⟨b, o, none⟩ ∧ w.cell? ⟨b, o + j, none⟩ = some (.slice ro (l.getD j []).length rc) ∧ IntsAt .i64 w ro (l.getD j [])
theorem ints_keep {w w' : World} {ao : Option Addr} {l : List Int} (h : IntsAt .i64 w ao l) (hb : Below w.heap.size w w') : IntsAt .i64 w' ao l := h.below (Nat.le_refl _) hb
def jtext (l : List (List Int)) : Bytes := Go.Lib.join (l.map ttext) [32]
theorem jtext_next (l : List (List Int)) (k : Nat) (x : List Int) (h : l[k]? = some x) : jtext (l.take (k + 1)) = if k = 0 then ttext x else jtext (l.take k) ++ [32] ++ ttext x := by
  obtain ⟨hl, _⟩ := List.getElem?_eq_some_iff.1 h
  unfold jtext
  rw [List.take_add_one, h, Option.toList_some, List.map_append, List.map_singleton, join_snoc]
  by_cases hk : k = 0
  · subst hk; simp
  · rw [if_neg hk, if_neg]
    intro he
    have h0 := congrArg List.length he
    rw [List.length_map, List.length_take, List.length_nil] at h0
    omega
theorem jtext_cap {l : List (List Int)} (h : ∀ r ∈ l, r.length ≤ 100000 ∧ ∀ z ∈ r, i64ok z) : ∀ k, (jtext (l.take k)).length ≤ 2200000 * k
  | 0 => by simp [jtext, Go.Lib.join_nil]
  | k + 1 => by
    have ih := jtext_cap h k
    cases hx : l[k]? with
    | none =>
      have e : l.take (k + 1) = l.take k := by rw [List.take_add_one, hx]; simp
      rw [e]; omega
    | some x =>
      obtain ⟨h1, h2⟩ := h x (List.mem_of_getElem? hx)
      have hi := ttext_cap h2 x.length
      rw [List.take_of_length_le (Nat.le_refl _)] at hi
      rw [jtext_next l k x hx]
      split
      · omega
      · rw [List.length_append, List.length_append]; simp; omega
theorem texts_any (l : List (List Int)) (ao : Option Addr) (c : Nat) (hl : l.length ≤ 100000) (h64 : ∀ r ∈ l, r.length ≤ 100000 ∧ ∀ z ∈ r, i64ok z) (w : World) (ha : TapesIn w ao l) :
    Calls Tryz.prog 18 #[.slice ao l.length c] w fun e w' => e = .returned (str (jtext l)) ∧ Below w.heap.size w w' := by
  have HA := Lib.hid ha
  clear ha
  go_enter Tryz.func18, Tryz.ntmps18
  go_wp2_with fail
  go_loopw [3, 4] (fun sv iv wr => ∃ k : Nat, sv = str (jtext (l.take k)) ∧ iv = .int .i64 (k : Int) ∧ k ≤ l.length ∧ RowKit.Hid (Below w.heap.size w wr)) (fun _ iv _ => l.length - (intOf iv).toNat)
  case atStart => exact ⟨0, rfl, rfl, by omega, Lib.hid (Below.refl _ _)⟩
  case round =>
    obtain ⟨k, rfl, rfl, hk, HK⟩ := hrel
    have hlt0 := jtext_cap h64 k
    rcases Nat.lt_or_ge k l.length with hlt | hge
    · obtain ⟨b, o, ro, rc, rfl, hc0, hr0⟩ := HA.out k hlt
      have hc := (HK.out.cell (World.block_lt_of_cell? w _ hc0)).trans hc0
      obtain ⟨x, hx⟩ : ∃ x, x = l.getD k [] := ⟨_, rfl⟩
      have hxe : l[k]? = some x := by rw [hx]; simp [hlt]
      rw [← hx] at hc hr0
      have hr := ints_keep hr0 HK.out
      have hi0 : (0 : Int) ≤ (k : Int) := by omega
      have hi1 : (k : Int) < (l.length : Int) := by omega
      have hw1 : IntKind.i64.wrap ((k : Int) + 1) = ((k + 1 : Nat) : Int) := by rw [IntWalk.i64_in _ (by omega)]; omega
      have hx64 := h64 x (List.mem_of_getElem? hxe)
      have hxl := ttext_cap hx64.2 x.length
      rw [List.take_of_length_le (Nat.le_refl _)] at hxl
      have HD := Lib.hid (fun (wx : World) (hh : IntsAt .i64 wx ro x) => TapeText_any x ro rc (by omega) hx64.2 wx hh)
      have HN := Lib.hid (jtext_next l k x hxe)
      obtain ⟨t, ht⟩ : ∃ t, t = jtext (l.take k) := ⟨_, rfl⟩
      obtain ⟨tx, htx⟩ : ∃ tx, tx = ttext x := ⟨_, rfl⟩
      rw [← ht] at HN hlt0 ⊢
      rw [← htx] at HN hxl
      have HTX := Lib.hid htx
      have HT := Lib.hid ht
      have HR := Lib.hid hr
      clear hx hxe hc0 ht htx hr hr0
      have hl1 : ¬ 9223372036854775807 < t.length + 1 := by omega
      have hl2 : ¬ 9223372036854775807 < t.length + 1 + tx.length := by omega
      have hl3 : ¬ 9223372036854775807 < t.length + tx.length := by omega
      rcases Nat.eq_zero_or_pos k with hk0 | hk0
      · subst hk0
        rw [Nat.add_zero] at hc
        have d1 : decide (0 < ((0 : Nat) : Int)) = false := decide_eq_false (by omega)
        have hln : 0 < l.length := hlt
        go_wp2_with fail
        refine (HD.out _ HR.out).mono ?_
        rw [← HTX.out]
        rintro e w1 ⟨rfl, hb1⟩
        have HB := Lib.hid (HK.out.trans (hb1.mono HK.out.size))
        have HE := Lib.hid (show t = [] by rw [HT.out, List.take_zero]; rfl)
        clear hb1
        go_wp2_with fail
        go_roundw
        case rel => exact ⟨1, by rw [HN.out, if_pos (by first | rfl | trivial)]; refine (congrArg Value.string (cat_text t tx)).trans ?_; rw [HE.out]; rfl, by go_num, by omega, HB⟩
        case measure => simp [intOf]; omega
      · have d1 : decide (0 < (k : Int)) = true := decide_eq_true (by omega)
        go_wp2_with fail
        refine (HD.out _ HR.out).mono ?_
        rw [← HTX.out]
        rintro e w1 ⟨rfl, hb1⟩
        have HB := Lib.hid (HK.out.trans (hb1.mono HK.out.size))
        clear hb1
        go_wp2_with fail
        go_roundw
        case rel => exact ⟨k + 1, by rw [HN.out, if_neg (by omega)]; show _ = Value.string ⟨(t ++ [32] ++ tx).toArray⟩; rw [← cat_text, ← cat_text], by go_num, by omega, HB⟩
        case measure => simp [intOf]; omega
    · have hkl : k = l.length := by omega
      subst hkl
      go_wp2_with fail
      go_ret
      exact ⟨by rw [List.take_of_length_le (Nat.le_refl _)]; rfl, HK.out⟩
end Go.Proofs.YtalbllijahiiiaaGreatDoor
end
