/- tape.Text. -/
import Derived.Test.YtalbllijahiiiaaGreatDoorDesk10
namespace Go.Proofs.YtalbllijahiiiaaGreatDoor
open Go.RowKit Go.Mine Go.Mine.Desk

theorem infoStr : (Tryz.prog.info? 9).map (fun i => (i.zero, i.size, i.bytes)) = some (some (.string ⟨#[]⟩), 1, 16) := by kernel_rfl
theorem join_len {c : UInt8} {m : Nat} : ∀ (l : List Bytes), (∀ x ∈ l, x.length ≤ m) → (Go.Lib.join l [c]).length ≤ (m + 1) * l.length
  | [], _ => by simp [Go.Lib.join_nil]
  | [x], h => by
    rw [Go.Lib.join_one]
    have := h x (by simp)
    simp; omega
  | x :: y :: r, h => by
    have ih := join_len (c := c) (y :: r) (fun z hz => h z (List.mem_cons_of_mem _ hz))
    have h1 := h x (by simp)
    rw [Go.Lib.join_cons] at ih ⊢
    have hp : (m + 1) * (x :: y :: r).length = (m + 1) * (y :: r).length + (m + 1) := by rw [List.length_cons, Nat.mul_succ]
    rw [hp]
    simp only [Go.Lib.joinTail, List.map_cons, List.flatten_cons, List.length_append, List.length_cons, List.length_nil] at ih ⊢
    generalize (m + 1) * (r.length + 1) = q at ih ⊢
    omega
/-- A text of texts, and what Join asks for. -/
def bas (l : List Bytes) : List ByteArray := l.map fun s => ⟨s.toArray⟩
theorem bas_back (l : List Bytes) : (bas l).map (·.data.toList) = l := by
  simp [bas, List.map_map, Function.comp_def]
theorem join_any (l : List Bytes) (c : UInt8) (v : Value) (base : Nat) (m : Nat) (hm : m ≤ 2000000) (hl : l.length ≤ 2000000) (hb : ∀ x ∈ l, x.length ≤ m) (w : World) (hown : w.ownsRow base 9 1 v l.length (l.map str)) :
    Calls Tryz.prog 63 #[v, str [c]] w fun e w' => e = .returned (str (Go.Lib.join l [c])) ∧ Below w.heap.size w w' := by
  have hj := join_len (c := c) l hb
  have hm2 : (m + 1) * l.length ≤ 2000001 * 2000000 := Nat.mul_le_mul (by omega) hl
  rcases hown.2 with ⟨rfl, h0⟩ | ⟨g, cap, cur, rfl, hg, hbk, hcap, hmx, hsz, htk⟩
  · obtain rfl : l = [] := List.eq_nil_of_length_eq_zero h0
    refine (Tryz.strings_Join_none none 0 ⟨[c].toArray⟩ w).mono ?_
    rintro e w' ⟨rfl, rfl⟩
    exact ⟨rfl, Below.refl _ _⟩
  · have hlen : (bas l).length = l.length := by simp [bas]
    have h := Tryz.strings_Join g 0 cap (bas l) ⟨[c].toArray⟩ w (fun j x hx => by
      have hj' : j < l.length := by
        have := (List.getElem?_eq_some_iff.1 hx).1
        omega
      have h1 := hown.cellAt j (by omega)
      rw [Nat.zero_add, h1]
      simp [bas, hj'] at hx ⊢
      rw [← hx]) (Array.getElem?_eq_some_iff.1 hbk).1 (by omega) (by omega) (by rw [bas_back]; simpa using (by omega : (Go.Lib.join l [c]).length ≤ 140737488355328))
    rw [hlen, bas_back] at h
    exact h
theorem text_len {ts : List Int} (hts : ∀ x ∈ ts, i64ok x) : ∀ s ∈ ts.map Go.Lib.itoa, s.length ≤ 21 := by
  intro s hs
  obtain ⟨x, hx, rfl⟩ := List.mem_map.1 hs
  exact Go.Lib.itoa_length_le x (hts x hx).1 (hts x hx).2
theorem str1 (s : Bytes) : ∀ u ∈ [str s], u.oneCell' = true := by intro u hu; simp at hu; subst hu; rfl
set_option maxRecDepth 100000 in
set_option maxHeartbeats 1000000 in
theorem tape_text_any (ts : List Int) (ao : Option Addr) (n c : Nat) (hn : ts.length = n) (hl : n ≤ 2000000) (hts : ∀ x ∈ ts, i64ok x) (w : World) (hg : Gl w) (hat : IntsAt .i64 w ao ts) :
    Calls Tryz.prog 52 #[.slice ao n c] w fun e w' => e = .returned (str (ttext ts)) ∧ Below w.heap.size w w' := by
  obtain ⟨i0, hi0, hz0, hz1, hz2⟩ := info_parts infoStr
  obtain ⟨w2, hw2⟩ : ∃ w2, w2 = w := ⟨_, rfl⟩
  rw [← hw2] at hat hg ⊢
  clear hw2 w
  go_enter Tryz.func52, Tryz.ntmps52
  go_wp2_with fail
  go_loopw [3, 5, 8] (fun tv _ kv wr => ∃ k : Nat, kv = .int .i64 (k : Int) ∧ k ≤ n ∧ RowKit.Hid (Below w2.heap.size w2 wr ∧ wr.ownsRow w2.heap.size 9 1 tv k (((ts.take k).map Go.Lib.itoa).map str))) (fun _ _ kv _ => n - (intOf kv).toNat)
  case atStart => exact ⟨0, rfl, by omega, Lib.hid ⟨Below.refl _ _, World.ownsRow_nil _ _ _ _⟩⟩
  case round =>
    obtain ⟨k, rfl, hk, HK⟩ := hrel
    rcases Nat.lt_or_ge k n with hkn | hkn
    · obtain ⟨b, o, rfl, hx0⟩ := hat k (by omega)
      have hx := (HK.out.1.cell (World.block_lt_of_cell? w2 _ hx0)).trans hx0
      have hmem : ts[k]? = some (ts.getD k 0) := by simp [show k < ts.length by omega]
      obtain ⟨x, hxe⟩ : ∃ x, ts.getD k 0 = x := ⟨_, rfl⟩
      rw [hxe] at hx hmem
      have hi0' : (0 : Int) ≤ (k : Int) := by omega
      have hi1 : (k : Int) < (n : Int) := by omega
      have hw1 : IntKind.i64.wrap ((k : Int) + 1) = ((k + 1 : Nat) : Int) := by rw [IntWalk.i64_in _ (by omega)]; omega
      have HC := Lib.hid (itoa_any x (hts x (List.mem_of_getElem? hmem)) wr (hg.on HK.out.1))
      have HM := Lib.hid hmem
      clear hmem hxe hx0
      go_wp2_with fail
      refine HC.out.mono ?_
      clear HC
      rintro e w3 ⟨rfl, hb3⟩
      have hb3' := HK.out.1.trans (hb3.mono HK.out.1.size)
      have HO := Lib.hid (owns_below HK.out.2 hb3)
      have HB := Lib.hid hb3'
      have hsz := hb3'.size
      clear hb3 hb3'
      go_wp2_with (at_builtin; refine wpList_push2 _ rfl _ _ 23 rfl w2.heap.size 9 i0 (.string ⟨#[]⟩) 1 16 Tryz.underlying23 hi0 hz0 hz1 hz2 rfl (by decide) _ _ _ rfl (HO.out.alloc _) ⟨w3.heap.size, 0, none⟩ 1 [str (Go.Lib.itoa x)] rfl rfl (World.news_of_block (cs := #[str (Go.Lib.itoa x)]) (t := 9) (fr := (0, 0)) (heap_alloc_at _ _ rfl)) (str1 _) (by unfold maxLen; omega) (by omega) (by simp; omega) ?_)
      intro g cap w7 hown hgr hat7
      have HB7 := Lib.hid ((HB.out.alloc hsz (.cells #[str (Go.Lib.itoa x)] 9)).grown hgr (by simp; omega) (fun q hq => (HO.out.lt q hq).1))
      have HO7 := Lib.hid (show w7.ownsRow w2.heap.size 9 1 (.slice (some ⟨g, 0, none⟩) (k + 1) cap) (k + 1) (((ts.take (k + 1)).map Go.Lib.itoa).map str) by
        rw [List.take_add_one, HM.out]
        simpa using hown)
      clear hown hgr hat7
      go_wp2_with fail
      go_roundw
      case rel => exact ⟨k + 1, by go_num, by omega, Lib.hid ⟨HB7.out, HO7.out⟩⟩
      case measure => simp [intOf]; omega
    · obtain rfl : k = n := by omega
      have hO := HK.out.2
      rw [List.take_of_length_le (by omega)] at hO
      have HC := Lib.hid (join_any (ts.map Go.Lib.itoa) 46 _ _ 21 (by omega) (by simp; omega) (text_len hts) wr (by rw [List.length_map, hn]; exact hO))
      go_wp2_with fail
      refine HC.out.mono ?_
      rintro e w3 ⟨rfl, hb3⟩
      have HB := Lib.hid (HK.out.1.trans (hb3.mono HK.out.1.size))
      go_wp2_with fail
      go_ret
      exact ⟨rfl, HB.out⟩
end Go.Proofs.YtalbllijahiiiaaGreatDoor
