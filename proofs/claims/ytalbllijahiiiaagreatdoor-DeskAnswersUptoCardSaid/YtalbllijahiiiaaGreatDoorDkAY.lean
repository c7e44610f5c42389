/- Tapes' texts, plainly: cut and join; the tape of a text, number by number. assayerref1.TapeFault, TapeText. assayerref1.TapeOf. -/
import Derived.Test.YtalbllijahiiiaaGreatDoorDkAX
section
namespace Go.Proofs.YtalbllijahiiiaaGreatDoor
open Go.RowKit Go.Mine Go.Mine.Desk

theorem join_snoc (sep : Bytes) (l : List Bytes) (x : Bytes) : Go.Lib.join (l ++ [x]) sep = if l = [] then x else Go.Lib.join l sep ++ sep ++ x := by
  cases l with
  | nil => rw [if_pos rfl, List.nil_append, Go.Lib.join_one]
  | cons y r =>
    rw [if_neg (by simp), List.cons_append, Go.Lib.join_cons, Go.Lib.join_cons]
    simp [Go.Lib.joinTail]
theorem join_two (sep x : Bytes) (l : List Bytes) (h : l ≠ []) : Go.Lib.join (x :: l) sep = x ++ sep ++ Go.Lib.join l sep := by
  cases l with
  | nil => exact absurd rfl h
  | cons y r =>
    rw [Go.Lib.join_cons, Go.Lib.join_cons]
    simp [Go.Lib.joinTail]
theorem join_cuts (c : UInt8) : ∀ s : Bytes, Go.Lib.join (cuts c s) [c] = s
  | [] => by simp [cuts, Go.Lib.join_one]
  | b :: l => by
    have ih := join_cuts c l
    have hne := cuts_ne c l
    rw [cuts]
    split
    · rename_i hb
      rw [join_two _ _ _ hne, ih, hb]
      simp
    · cases hc : cuts c l with
      | nil => exact absurd hc hne
      | cons x r =>
        rw [hc] at ih
        rw [Go.Lib.join_cons] at ih ⊢
        rw [← ih]
        simp
theorem cuts_join (c : UInt8) : ∀ l : List Bytes, l ≠ [] → (∀ p ∈ l, c ∉ p) → cuts c (Go.Lib.join l [c]) = l
  | [], h, _ => absurd rfl h
  | [x], _, hp => by rw [Go.Lib.join_one, cuts_none c x (hp x (by simp))]
  | x :: y :: r, _, hp => by
    rw [join_two _ _ _ (by simp), List.append_assoc, List.singleton_append, cuts_append, cuts_none c x (hp x (by simp)), cuts_join c (y :: r) (by simp) (fun p h => hp p (List.mem_cons_of_mem _ h))]
    rfl
def numEach : List Bytes → Option (List Int)
  | [] => some []
  | p :: r => match numV p with
    | some v => (numEach r).map (v :: ·)
    | none => none
theorem numEach_atoi : ∀ {ps : List Bytes} {l : List Int}, numEach ps = some l → atoiEach ps = some l ∧ l.map Go.Lib.itoa = ps ∧ ∀ z ∈ l, i64ok z
  | [], l, h => by cases h; exact ⟨rfl, rfl, by simp⟩
  | p :: r, l, h => by
    rw [numEach] at h
    cases hn : numV p with
    | none => rw [hn] at h; cases h
    | some v =>
      rw [hn] at h
      obtain ⟨l', h1, h2⟩ := Option.map_eq_some_iff.1 h
      subst h2
      obtain ⟨i1, i2, i3⟩ := numEach_atoi h1
      obtain ⟨v1, v2⟩ := numV_iff.1 hn
      refine ⟨?_, by rw [List.map_cons, v2, i2], fun z hz => ?_⟩
      · rw [atoiEach, ← v2, atoi_itoa v1]
        simp only [i1, Option.map_some]
      · rcases List.mem_cons.1 hz with rfl | hz
        · exact v1
        · exact i3 z hz
theorem atoiEach_ok : ∀ {ps : List Bytes} {l : List Int}, atoiEach ps = some l → ∀ z ∈ l, i64ok z
  | [], l, h => by cases h; simp
  | p :: r, l, h => by
    rw [atoiEach] at h
    cases ha : Go.Lib.atoiAll p with
    | ok v =>
      rw [ha] at h
      obtain ⟨l', h1, h2⟩ := Option.map_eq_some_iff.1 h
      subst h2
      obtain ⟨b1, b2⟩ := Go.Lib.atoiAll_bounds ha
      intro z hz
      rcases List.mem_cons.1 hz with rfl | hz
      · exact ⟨by omega, by omega⟩
      · exact atoiEach_ok h1 z hz
    | range => rw [ha] at h; cases h
    | _ => rw [ha] at h; cases h
theorem numEach_map : ∀ {l : List Int}, (∀ z ∈ l, i64ok z) → numEach (l.map Go.Lib.itoa) = some l
  | [], _ => rfl
  | z :: l, h => by
    rw [List.map_cons, numEach, numV_iff.2 ⟨h z (by simp), rfl⟩]
    simp only [numEach_map (fun x hx => h x (List.mem_cons_of_mem _ hx)), Option.map_some]
theorem itoa_dot (z : Int) : (46 : UInt8) ∉ Go.Lib.itoa z := by
  intro h
  have e : (46 : UInt8).toNat = 46 := rfl
  unfold Go.Lib.itoa at h
  split at h
  · rcases List.mem_cons.1 h with h | h
    · cases h
    · have := dec_digit _ _ h; omega
  · have := dec_digit _ _ h; omega
theorem tapeV_each {s : Bytes} (hs : s ≠ []) : tapeV s = match numEach (cuts 46 s) with
    | some l => if tapeOk l = true then some l else none
    | none => none := by
  unfold tapeV
  rw [if_neg hs]
  cases hn : numEach (cuts 46 s) with
  | some l =>
    obtain ⟨h1, h2, _⟩ := numEach_atoi hn
    have ht : ttext l = s := by unfold ttext; rw [h2]; exact join_cuts 46 s
    simp only [h1, ht, and_true]
  | none =>
    cases ha : atoiEach (cuts 46 s) with
    | none => rfl
    | some l =>
      simp only
      rw [if_neg]
      rintro ⟨_, ht⟩
      have hl : l ≠ [] := by
        rintro rfl
        exact hs (by rw [← ht]; rfl)
      have hc : cuts 46 s = l.map Go.Lib.itoa := by
        rw [← ht]
        exact cuts_join 46 _ (by simpa using hl) (fun p hp => by
          obtain ⟨z, _, rfl⟩ := List.mem_map.1 hp
          exact itoa_dot z)
      rw [hc, numEach_map (atoiEach_ok ha)] at hn
      cases hn
end Go.Proofs.YtalbllijahiiiaaGreatDoor
end

section
namespace Go.Proofs.YtalbllijahiiiaaGreatDoor
open Go.RowKit Go.Mine Go.Mine.Desk

theorem tapeOk_bad {l : List Int} {k : Nat} {x : Int} (h : l[k]? = some x) (hx : x < 0 ∨ 1000 < x) : tapeOk l = false := by
  cases ht : tapeOk l with
  | false => rfl
  | true =>
    have := List.all_eq_true.1 ht x (List.mem_of_getElem? h)
    simp at this
    omega
theorem tapeOk_all {l : List Int} (h : ∀ (k : Nat) (x : Int), k < l.length → l[k]? = some x → 0 ≤ x ∧ x ≤ 1000) : tapeOk l = true := by
  refine List.all_eq_true.2 fun x hx => ?_
  obtain ⟨k, hk, hv⟩ := List.getElem_of_mem hx
  have := h k x hk (by rw [List.getElem?_eq_getElem hk, hv])
  simp
  omega
theorem TapeFault_any (l : List Int) (ao : Option Addr) (c : Nat) (hl : l.length ≤ 9000000000000000000) (w : World) (ha : IntsAt .i64 w ao l) :
    Calls Tryz.prog 29 #[.slice ao l.length c] w fun e w' => e = .returned (.bool (!tapeOk l)) ∧ w' = w := by
  have HA := Lib.hid ha
  clear ha
  go_enter Tryz.func29, Tryz.ntmps29
  go_wp2_with fail
  go_loopw [3] (fun iv wr => ∃ k : Nat, iv = .int .i64 (k : Int) ∧ k ≤ l.length ∧ wr = w ∧ RowKit.Hid (∀ (j : Nat) (x : Int), j < k → l[j]? = some x → 0 ≤ x ∧ x ≤ 1000)) (fun iv _ => l.length - (intOf iv).toNat)
  case atStart => exact ⟨0, rfl, by omega, by first | trivial | rfl, Lib.hid (fun j x h => absurd h (Nat.not_lt_zero _))⟩
  case round =>
    obtain ⟨k, rfl, hk, hwr, HK⟩ := hrel
    rcases Nat.lt_or_ge k l.length with hlt | hge
    · obtain ⟨b, o, rfl, hc⟩ := HA.out k hlt
      rw [← hwr] at hc
      obtain ⟨x, hx⟩ : ∃ x, x = l.getD k 0 := ⟨_, rfl⟩
      have hxe : l[k]? = some x := by rw [hx]; simp [hlt]
      rw [← hx] at hc
      have hi0 : (0 : Int) ≤ (k : Int) := by omega
      have hi1 : (k : Int) < (l.length : Int) := by omega
      have hw1 : IntKind.i64.wrap ((k : Int) + 1) = ((k + 1 : Nat) : Int) := by rw [IntWalk.i64_in _ (by omega)]; omega
      have HX := Lib.hid hxe
      have HW := Lib.hid hwr
      clear hx hxe hwr
      by_cases h1 : x < 0
      · have d1 : decide (x < 0) = true := decide_eq_true h1
        have HB := Lib.hid (tapeOk_bad HX.out (.inl h1))
        go_wp2_with fail
        go_ret
        exact ⟨by rw [HB.out]; rfl, HW.out⟩
      · have d1 : decide (x < 0) = false := decide_eq_false h1
        by_cases h2 : 1000 < x
        · have d2 : decide (1000 < x) = true := decide_eq_true h2
          have HB := Lib.hid (tapeOk_bad HX.out (.inr h2))
          go_wp2_with fail
          go_ret
          exact ⟨by rw [HB.out]; rfl, HW.out⟩
        · have d2 : decide (1000 < x) = false := decide_eq_false h2
          have HK2 := Lib.hid (show ∀ (j : Nat) (y : Int), j < k + 1 → l[j]? = some y → 0 ≤ y ∧ y ≤ 1000 from fun j y hj hy => by
            rcases Nat.lt_or_ge j k with h | h
            · exact HK.out j y h hy
            · obtain rfl : j = k := by omega
              rw [HX.out] at hy
              cases hy
              omega)
          go_wp2_with fail
          go_roundw
          case rel => exact ⟨k + 1, by go_num, by omega, HW.out, HK2⟩
          case measure => simp [intOf]; omega
    · have hkl : k = l.length := by omega
      subst hkl
      have HB := Lib.hid (tapeOk_all HK.out)
      have HW := Lib.hid hwr
      clear hwr
      go_wp2_with fail
      go_ret
      exact ⟨by rw [HB.out]; rfl, HW.out⟩
theorem ttext_next (l : List Int) (k : Nat) (x : Int) (h : l[k]? = some x) : ttext (l.take (k + 1)) = if k = 0 then Go.Lib.itoa x else ttext (l.take k) ++ [46] ++ Go.Lib.itoa x := by
  obtain ⟨hl, _⟩ := List.getElem?_eq_some_iff.1 h
  unfold ttext
  rw [List.take_add_one, h, Option.toList_some, List.map_append, List.map_singleton, join_snoc]
  by_cases hk : k = 0
  · subst hk; simp
  · rw [if_neg hk, if_neg]
    intro he
    have h0 := congrArg List.length he
    rw [List.length_map, List.length_take, List.length_nil] at h0
    omega
theorem itoa_len {z : Int} (h : i64ok z) : (Go.Lib.itoa z).length ≤ 20 := by
  have hv := numV_iff.2 ⟨h, rfl⟩
  exact (num_tail hv).choose_spec.2.1
theorem ttext_cap {l : List Int} (h : ∀ z ∈ l, i64ok z) : ∀ k, (ttext (l.take k)).length ≤ 21 * k
  | 0 => by simp [ttext, Go.Lib.join_nil]
  | k + 1 => by
    have ih := ttext_cap h k
    cases hx : l[k]? with
    | none =>
      have e : l.take (k + 1) = l.take k := by rw [List.take_add_one, hx]; simp
      rw [e]; omega
    | some x =>
      have hi := itoa_len (h x (List.mem_of_getElem? hx))
      rw [ttext_next l k x hx]
      split
      · omega
      · simp; omega
theorem TapeText_any (l : List Int) (ao : Option Addr) (c : Nat) (hl : l.length ≤ 100000000) (h64 : ∀ z ∈ l, i64ok z) (w : World) (ha : IntsAt .i64 w ao l) :
    Calls Tryz.prog 22 #[.slice ao l.length c] w fun e w' => e = .returned (str (ttext l)) ∧ Below w.heap.size w w' := by
  have HA := Lib.hid ha
  clear ha
  go_enter Tryz.func22, Tryz.ntmps22
  go_wp2_with fail
  go_loopw [3, 4] (fun sv iv wr => ∃ k : Nat, sv = str (ttext (l.take k)) ∧ iv = .int .i64 (k : Int) ∧ k ≤ l.length ∧ RowKit.Hid (Below w.heap.size w wr)) (fun _ iv _ => l.length - (intOf iv).toNat)
  case atStart => exact ⟨0, rfl, rfl, by omega, Lib.hid (Below.refl _ _)⟩
  case round =>
    obtain ⟨k, rfl, rfl, hk, HK⟩ := hrel
    have hlt0 := ttext_cap h64 k
    rcases Nat.lt_or_ge k l.length with hlt | hge
    · obtain ⟨b, o, rfl, hc0⟩ := HA.out k hlt
      have hc := (HK.out.cell (World.block_lt_of_cell? w _ hc0)).trans hc0
      obtain ⟨x, hx⟩ : ∃ x, x = l.getD k 0 := ⟨_, rfl⟩
      have hxe : l[k]? = some x := by rw [hx]; simp [hlt]
      rw [← hx] at hc
      have hi0 : (0 : Int) ≤ (k : Int) := by omega
      have hi1 : (k : Int) < (l.length : Int) := by omega
      have hw1 : IntKind.i64.wrap ((k : Int) + 1) = ((k + 1 : Nat) : Int) := by rw [IntWalk.i64_in _ (by omega)]; omega
      have hx64 := h64 x (List.mem_of_getElem? hxe)
      have hxl := itoa_len hx64
      have HD := Lib.hid (fun wx => Digits_any x hx64 wx)
      have HN := Lib.hid (ttext_next l k x hxe)
      obtain ⟨t, ht⟩ : ∃ t, t = ttext (l.take k) := ⟨_, rfl⟩
      obtain ⟨tx, htx⟩ : ∃ tx, tx = Go.Lib.itoa x := ⟨_, rfl⟩
      rw [← ht] at HN hlt0 ⊢
      rw [← htx] at HN hxl
      have HTX := Lib.hid htx
      have HT := Lib.hid ht
      clear hx hxe hc0 ht htx
      have hl1 : ¬ 9223372036854775807 < t.length + 1 := by omega
      have hl2 : ¬ 9223372036854775807 < t.length + 1 + tx.length := by omega
      have hl3 : ¬ 9223372036854775807 < t.length + tx.length := by omega
      rcases Nat.eq_zero_or_pos k with hk0 | hk0
      · subst hk0
        rw [Nat.add_zero] at hc
        have d1 : decide (0 < ((0 : Nat) : Int)) = false := decide_eq_false (by omega)
        have hln : 0 < l.length := hlt
        go_wp2_with fail
        refine (HD.out _).mono ?_
        rw [← HTX.out]
        rintro e w1 ⟨rfl, hb1⟩
        have HB := Lib.hid (HK.out.trans (hb1.mono HK.out.size))
        have HE := Lib.hid (show t = [] by rw [HT.out, List.take_zero]; rfl)
        clear hb1
        go_wp2_with fail
        go_roundw
        case rel => exact ⟨1, by rw [HN.out, if_pos (by first | rfl | trivial)]; refine (congrArg Value.string (cat_text t tx)).trans ?_; rw [HE.out]; rfl, by go_num, by omega, HB⟩
        case measure => simp [intOf]; omega
      · have d1 : decide (0 < (k : Int)) = true := decide_eq_true (by omega)
        go_wp2_with fail
        refine (HD.out _).mono ?_
        rw [← HTX.out]
        rintro e w1 ⟨rfl, hb1⟩
        have HB := Lib.hid (HK.out.trans (hb1.mono HK.out.size))
        clear hb1
        go_wp2_with fail
        go_roundw
        case rel => exact ⟨k + 1, by rw [HN.out, if_neg (by omega)]; show _ = Value.string ⟨(t ++ [46] ++ tx).toArray⟩; rw [← cat_text, ← cat_text], by go_num, by omega, HB⟩
        case measure => simp [intOf]; omega
    · have hkl : k = l.length := by omega
      subst hkl
      go_wp2_with fail
      go_ret
      exact ⟨by rw [List.take_of_length_le (Nat.le_refl _)]; rfl, HK.out⟩
end Go.Proofs.YtalbllijahiiiaaGreatDoor
end

section
namespace Go.Proofs.YtalbllijahiiiaaGreatDoor
open Go.RowKit Go.Mine Go.Mine.Desk

theorem numEach_append : ∀ (a b : List Bytes), numEach (a ++ b) = (numEach a).bind fun x => (numEach b).map (x ++ ·)
  | [], b => by cases h : numEach b <;> simp [numEach, h]
  | p :: a, b => by
    rw [List.cons_append, numEach, numEach, numEach_append a b]
    cases numV p with
    | none => rfl
    | some v => cases numEach a <;> cases numEach b <;> simp
theorem numEach_ok {ps : List Bytes} {k : Nat} {zs : List Int} {p : Bytes} {v : Int} (h : numEach (ps.take k) = some zs) (hp : ps[k]? = some p) (hv : numV p = some v) : numEach (ps.take (k + 1)) = some (zs ++ [v]) := by
  rw [List.take_add_one, hp, Option.toList_some, numEach_append, h]
  simp [numEach, hv]
theorem numEach_bad {ps : List Bytes} {k : Nat} {p : Bytes} (hp : ps[k]? = some p) (hv : numV p = none) : numEach ps = none := by
  obtain ⟨hl, hx⟩ := List.getElem?_eq_some_iff.1 hp
  rw [← List.take_append_drop k ps, numEach_append, List.drop_eq_getElem_cons hl, hx, numEach, hv]
  cases numEach (ps.take k) <;> rfl
def TapeOfPost (s : Bytes) (w : World) (e : Ending) (w' : World) : Prop :=
  Below w.heap.size w w' ∧ ((∃ l uo uc, tapeV s = some l ∧ e = .returned (.tuple #[.slice uo l.length uc, .bool true]) ∧ IntsAt .i64 w' uo l ∧ l.length ≤ 1200000 ∧ (∀ z ∈ l, i64ok z) ∧ l.length ≤ uc) ∨
    (tapeV s = none ∧ e = .returned (.tuple #[.slice none 0 0, .bool false])))
structure TI (s : Bytes) (w : World) (B : Nat) (ro : Option Addr) (k : Nat) (ov : Value) (zs : List Int) (W : World) : Prop where
  below : Below w.heap.size w W
  rows : StrsAt W ro (cuts 46 s)
  own : W.ownsRow B 3 1 ov zs.length (zs.map (.int .i64))
  each : numEach ((cuts 46 s).take k) = some zs
  len : zs.length = k
  size : B ≤ W.heap.size
  low : ∀ b o, ro = some ⟨b, o, none⟩ → b < B
theorem StrsAt.grown {w w' : World} {row : Option Nat} {ao : Option Addr} {l : List Bytes} {B : Nat} (h : StrsAt w ao l) (hg : w.grownBy w' row) (hr : ∀ k, row = some k → B ≤ k) (hl : ∀ b o, ao = some ⟨b, o, none⟩ → b < B) : StrsAt w' ao l := fun j hj => by
  obtain ⟨b, o, e, hc⟩ := h j hj
  refine ⟨b, o, e, ?_⟩
  rw [← hc]
  exact World.cell?_of_block (hg.block b (World.block_lt_of_cell? w _ hc) (fun e2 => by have := hr b e2.symm; have := hl b o e; omega))
set_option maxRecDepth 100000 in
set_option maxHeartbeats 4000000 in
theorem TapeOf_any (s : Bytes) (hs : s.length ≤ 1100000) (w : World) : Calls Tryz.prog 15 #[str s] w (TapeOfPost s w) := by
  obtain ⟨i1, hj1, hy0, hy1, hy2⟩ := info_parts infoI3d
  by_cases hse : s = []
  · subst hse
    go_enter Tryz.func15, Tryz.ntmps15
    go_wp2_with fail
    go_ret2
    exact ⟨Below.refl _ _, .inl ⟨[], none, 0, rfl, rfl, IntsAt.nil _ _ _, by simp, by simp, by simp⟩⟩
  · have hem : List.isEmpty s = false := by cases s with | nil => exact absurd rfl hse | cons _ _ => rfl
    have HC := Lib.hid (show Calls Tryz.prog 7 #[str s, .int .u8 46] w (fun e w' => (∃ v, e = .returned v ∧ w'.ownsRow w.heap.size 9 1 v (cuts 46 s).length ((cuts 46 s).map str)) ∧ Below w.heap.size w w') from by
      have h := Cut_any s 46 hs w
      rw [show (((46 : UInt8).toNat : Nat) : Int) = 46 from rfl] at h
      exact h)
    have HT := Lib.hid (tapeV_each hse)
    obtain ⟨m, hm⟩ : ∃ m, m = (cuts 46 s).length := ⟨_, rfl⟩
    have hm2 : m ≤ 1100001 := by have := cuts_length 46 s; omega
    rw [← hm] at HC
    have HM := Lib.hid hm
    have HS := Lib.hid hs
    clear hm hs hse
    go_enter Tryz.func15, Tryz.ntmps15
    go_wp2_with fail
    refine HC.out.mono ?_
    clear HC
    rintro e w1 ⟨⟨v, rfl, hown⟩, hb1⟩
    obtain ⟨ro, rc, rfl⟩ := owns_shape hown
    have HI := Lib.hid (show TI s w w1.heap.size ro 0 (.slice none 0 0) [] w1 from ⟨hb1, StrsAt.of_owns (n := m) hown, World.ownsRow_nil _ _ _ _, rfl, rfl, Nat.le_refl _, fun b o e => by
      obtain ⟨b', o', e', hc⟩ := StrsAt.of_owns (n := m) hown 0 (List.length_pos_iff.2 (cuts_ne 46 s))
      rw [e] at e'
      cases e'
      exact World.block_lt_of_cell? w1 _ hc⟩)
    obtain ⟨B, hB⟩ : ∃ B, B = w1.heap.size := ⟨_, rfl⟩
    rw [← hB] at HI
    have hBw : w.heap.size ≤ B := by rw [hB]; exact hb1.size
    clear hown hb1 hB
    go_wp2_with fail
    go_loopw [5, 6] (fun ov iv wr => ∃ (k : Nat) (zs : List Int), iv = .int .i64 (k : Int) ∧ k ≤ m ∧ RowKit.Hid (TI s w B ro k ov zs wr)) (fun _ iv _ => m - (intOf iv).toNat)
    case atStart => exact ⟨0, [], rfl, by omega, HI⟩
    case round =>
      obtain ⟨k, zs, rfl, hk, HK⟩ := hrel
      have hzl : zs.length ≤ 1100001 := by have := HK.out.len; omega
      have hsz := HK.out.size
      rcases Nat.lt_or_ge k m with hlt | hge
      · obtain ⟨b, o, rfl, hc⟩ := HK.out.rows k (by rw [← HM.out]; exact hlt)
        obtain ⟨p, hp⟩ : ∃ p, p = (cuts 46 s).getD k [] := ⟨_, rfl⟩
        have hpe : (cuts 46 s)[k]? = some p := by rw [hp]; simp [show k < (cuts 46 s).length by rw [← HM.out]; exact hlt]
        rw [← hp] at hc
        have hi0 : (0 : Int) ≤ (k : Int) := by omega
        have hi1 : (k : Int) < (m : Int) := by omega
        have hw1 : IntKind.i64.wrap ((k : Int) + 1) = ((k + 1 : Nat) : Int) := by rw [IntWalk.i64_in _ (by omega)]; omega
        have HN := Lib.hid (num_walk p wr)
        have HP := Lib.hid hpe
        clear hp hpe
        go_wp2_with fail
        refine HN.out.mono ?_
        clear HN
        rintro e w3 ⟨⟨n, bb, rfl, h64, hnum⟩, hb3⟩
        have hb3' := HK.out.below.trans (hb3.mono HK.out.below.size)
        have hsz3 : B ≤ w3.heap.size := Nat.le_trans hsz hb3.size
        have H3 := Lib.hid (And.intro hb3' (And.intro (HK.out.rows.on hb3) (And.intro (owns_below HK.out.own hb3) (And.intro hnum h64))))
        clear hb3 hb3' hnum h64 hc
        cases bb with
        | false =>
          have HX := Lib.hid (show tapeV s = none by rw [HT.out, numEach_bad HP.out (H3.out.2.2.2.1.2 rfl)])
          go_wp2_with fail
          go_ret2
          exact ⟨H3.out.1, .inr ⟨HX.out, rfl⟩⟩
        | true =>
          have HE := Lib.hid (numEach_ok HK.out.each HP.out (H3.out.2.2.2.1.1 rfl))
          have HO := Lib.hid H3.out.2.2.1
          go_wp2_with (at_builtin; refine wpList_push2 _ rfl _ _ 48 rfl B 3 i1 (.int .i64 0) 1 8 Tryz.underlying48 hj1 hy0 hy1 hy2 rfl (by decide) _ _ _ rfl (HO.out.alloc _) ⟨w3.heap.size, 0, none⟩ 1 [.int .i64 n] rfl rfl (World.news_of_block (cs := #[.int .i64 n]) (t := 3) (fr := (0, 0)) (heap_alloc_at _ _ rfl)) (by simp [Value.oneCell']) (by unfold maxLen; omega) (by omega) (by simp; omega) ?_)
          intro g cap w7 hown hgr hat7
          have hb7 : Below w3.heap.size w3 (w3.alloc (.cells #[.int .i64 n] 3)) := (Below.refl _ _).alloc (Nat.le_refl _) _
          have HK2 := Lib.hid (show TI s w B (some ⟨b, o, none⟩) (k + 1) (.slice (some ⟨g, 0, none⟩) (zs.length + 1) cap) (zs ++ [n]) w7 from by
            refine ⟨(H3.out.1.trans (hb7.mono H3.out.1.size)).grown hgr (Nat.le_trans H3.out.1.size hb7.size) (fun q hq => Nat.le_trans hBw (HO.out.lt q hq).1), ?_, by rw [List.length_append, List.map_append]; exact hown, HE.out, by rw [List.length_append, HK.out.len]; rfl, Nat.le_trans (Nat.le_trans hsz3 hb7.size) hgr.size, HK.out.low⟩
            exact (H3.out.2.1.on hb7).grown hgr (fun q hq => (HO.out.lt q hq).1) HK.out.low)
          clear hown hgr hat7 hb7
          go_wp2_with fail
          go_roundw
          case rel => exact ⟨k + 1, zs ++ [n], by go_num, by omega, HK2⟩
          case measure => simp [intOf]; omega
      · have hkm : k = m := by omega
        subst hkm
        obtain ⟨uo, uc, rfl⟩ := owns_shape HK.out.own
        have HE := Lib.hid (show numEach (cuts 46 s) = some zs by have h := HK.out.each; rwa [HM.out, List.take_of_length_le (Nat.le_refl _)] at h)
        have HF := Lib.hid (TapeFault_any zs uo uc (by omega) wr (IntsAt.of_owns HK.out.own))
        go_wp2_with fail
        refine HF.out.mono ?_
        clear HF
        rintro e w5 ⟨rfl, rfl⟩
        cases ht : tapeOk zs with
        | true =>
          have HX := Lib.hid (show tapeV s = some zs by rw [HT.out, HE.out]; simp [ht])
          clear ht
          go_wp2_with fail
          go_ret2
          exact ⟨HK.out.below, .inl ⟨zs, uo, uc, HX.out, rfl, IntsAt.of_owns HK.out.own, by omega, (numEach_atoi HE.out).2.2, own_cap2 HK.out.own⟩⟩
        | false =>
          have HX := Lib.hid (show tapeV s = none by rw [HT.out, HE.out]; simp [ht])
          clear ht
          go_wp2_with fail
          go_ret2
          exact ⟨HK.out.below, .inr ⟨HX.out, rfl⟩⟩
end Go.Proofs.YtalbllijahiiiaaGreatDoor
end
