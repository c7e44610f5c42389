/- strings.SplitSeq$1: it hands over a text's pieces. -/
import Derived.Test.YtalbllijahiiiaaGreatDoorDesk36
import Derived.Lib.IndexLaws
namespace Go.Proofs.YtalbllijahiiiaaGreatDoor
open Go.RowKit Go.Mine Go.Mine.Desk

theorem cuts_last {c : UInt8} {s : Bytes} (h : Go.Lib.indexByte s c = -1) : cuts c s = [s] := by
  refine cuts_none c s (fun hm => ?_)
  obtain ⟨k, hk, hv⟩ := List.getElem_of_mem hm
  exact Go.Lib.indexByte_none h k (by rw [List.getElem?_eq_getElem hk, hv])
theorem cuts_next {c : UInt8} {s : Bytes} {k : Nat} (h : Go.Lib.indexByte s c = (k : Int)) : k < s.length ∧ cuts c s = s.take k :: cuts c (s.drop (k + 1)) := by
  obtain ⟨h1, h2⟩ := Go.Lib.indexByte_some h
  obtain ⟨hk, hv⟩ := List.getElem?_eq_some_iff.1 h1
  refine ⟨hk, ?_⟩
  have e : s = s.take k ++ c :: s.drop (k + 1) := by
    conv => lhs; rw [← List.take_append_drop k s, List.drop_eq_getElem_cons hk, hv]
  conv => lhs; rw [e]
  rw [cuts_append, cuts_none c (s.take k)]
  · rfl
  · intro hm
    obtain ⟨j, hj, hjv⟩ := List.getElem_of_mem hm
    rw [List.getElem_take] at hjv
    rw [List.length_take] at hj
    exact h2 j (by omega) (by rw [List.getElem?_eq_getElem (by omega), hjv])
theorem index_dot (s : Bytes) (c : UInt8) (w : World) : Calls Tryz.prog 41 #[str s, str [c]] w fun e w' => e = .returned (.int .i64 (Go.Lib.indexByte s c)) ∧ w' = w := by
  have h := Tryz.strings_Index_one ⟨s.toArray⟩ c w
  simpa using h
theorem take_text (s : Bytes) (k : Nat) (hk : k ≤ s.length) (w : World) : (Instr.slice 9 (str s) none (some (.int .i64 (k : Int))) none).run Tryz.prog w = .ok (str (s.take k)) w := by
  rw [run_slice_string_h (P := Tryz.prog) w 9 ⟨s.toArray⟩ (by kernel_rfl) .i64 (k : Int) (by omega) (by simpa [ByteArray.size] using hk), Go.Lib.extract_eq]
  simp
theorem drop_text (s : Bytes) (k : Nat) (hk : k < s.length) (w : World) : (Instr.slice 9 (str s) (some (.int .i64 ((k : Int) + 1))) none none).run Tryz.prog w = .ok (str (s.drop (k + 1))) w := by
  rw [run_slice_string_l (P := Tryz.prog) w 9 ⟨s.toArray⟩ (by kernel_rfl) .i64 ((k : Int) + 1) (by omega) (by simp [ByteArray.size]; omega), Go.Lib.extract_eq]
  have e : ((k : Int) + 1).toNat = k + 1 := by omega
  rw [e]
  have e2 : (⟨s.toArray⟩ : ByteArray).size = s.length := by simp [ByteArray.size]
  rw [e2]
  rw [List.take_of_length_le (by simp)]
/-- How many bytes of the text are left. -/
def leftAt (C : Nat) (w : World) : Nat := match w.cell? ⟨C, 0, none⟩ with
  | some (.string b) => b.size
  | _ => 0
theorem leftAt_eq {C : Nat} {w : World} {s : Bytes} (h : w.cell? ⟨C, 0, none⟩ = some (str s)) : leftAt C w = s.length := by
  unfold leftAt
  rw [h]
  simp [ByteArray.size]
/-- What lies there between two rounds. -/
structure PI (w : World) (s rest : Bytes) (zs : List Int) (B C : Nat) (W : World) : Prop where
  below : Below w.heap.size w W
  k0 : Blk W B 9 #[str s]
  k1 : Blk W (B + 1) 48 #[.slice none 0 0]
  k2 : Blk W (B + 1 + 1) 100 #[.nilIface]
  k3 : ∃ v, Blk W (B + 1 + 1 + 1) 48 #[v] ∧ W.ownsRow (C + 5) 3 1 v zs.length (zs.map (.int .i64))
  c0 : Blk W C 9 #[str rest]
  c1 : Blk W (C + 1) 9 #[str [46]]
  c2 : Blk W (C + 1 + 1) 3 #[.int .i64 0]
  kd : W.heap[C + 3]? = some (.deferred (some []))
theorem PI.turn {w : World} {s rest : Bytes} {zs : List Int} {B C : Nat} {W : World} (h : PI w s rest zs B C W) (hB : w.heap.size ≤ B) (hC : C = B + 4) (q : Bytes) : PI w s q zs B C (W.setCell ⟨C, 0, none⟩ (str q)) where
  below := h.below.setCell (by simp; omega) _
  k0 := h.k0.other C 0 (by omega) _
  k1 := h.k1.other C 0 (by omega) _
  k2 := h.k2.other C 0 (by omega) _
  k3 := by
    obtain ⟨v, h1, h2⟩ := h.k3
    exact ⟨v, h1.other C 0 (by omega) _, owns_block h2 fun g hg _ => Below.heap_setCell W ⟨C, 0, none⟩ _ g (by simp; omega)⟩
  c0 := by simpa using h.c0.set 0 (str q)
  c1 := h.c1.other C 0 (by omega) _
  c2 := h.c2.other C 0 (by omega) _
  kd := (Below.heap_setCell W ⟨C, 0, none⟩ _ (C + 3) (by simp)).trans h.kd
/-- What lies there where a piece was no number. -/
structure PR (w : World) (s : Bytes) (B C : Nat) (W : World) : Prop where
  below : Below w.heap.size w W
  k1 : Blk W (B + 1) 48 #[.slice none 0 0]
  k2 : Blk W (B + 1 + 1) 100 #[.iface 36 (.int .i64 3)]
  kd : W.heap[C + 3]? = some (.deferred (some []))
def noNumber (p : Bytes) : Prop := ∀ z, Go.Lib.atoiAll p ≠ .ok z
theorem atoiEach_no {p : Bytes} {l : List Bytes} (h : noNumber p) : atoiEach (p :: l) = none := by
  rw [atoiEach]
  cases ha : Go.Lib.atoiAll p with
  | ok v => exact absurd ha (h v)
  | range => rfl
  | _ => rfl
/-- How a round ends. -/
def RoundR (w : World) (s rest : Bytes) (zs : List Int) (p : Bytes) (B C : Nat) (r : Loop) (v : Value) (W : World) : Prop :=
  (v = .bool true ∧ s ≠ [] ∧ ∃ z, Go.Lib.atoiAll p = .ok z ∧ PI w s rest (zs ++ [z]) B C W ∧ W.heap[C + 4]? = some (.loop r)) ∨
  (v = .bool false ∧ s = [] ∧ PI w s rest zs B C W ∧ W.heap[C + 4]? = some (.loop { r with state := .done, pending := some (.exit 0) })) ∨
  (v = .bool false ∧ s ≠ [] ∧ noNumber p ∧ PR w s B C W ∧ W.heap[C + 4]? = some (.loop { r with state := .done, pending := some .ret }))
/-- How the pieces end. -/
def IterEnd (w : World) (s : Bytes) (B C : Nat) (r : Loop) (W : World) : Prop :=
  (s ≠ [] ∧ ∃ zs rest, atoiEach (cuts 46 s) = some zs ∧ PI w s rest zs B C W ∧ W.heap[C + 4]? = some (.loop r)) ∨
  (s = [] ∧ PI w s [] [] B C W ∧ W.heap[C + 4]? = some (.loop { r with state := .done, pending := some (.exit 0) })) ∨
  (s ≠ [] ∧ atoiEach (cuts 46 s) = none ∧ PR w s B C W ∧ W.heap[C + 4]? = some (.loop { r with state := .done, pending := some .ret }))
attribute [local go_sem] Oper.semAt_some
set_option maxRecDepth 100000 in
set_option maxHeartbeats 2000000 in
theorem split_iter (w : World) (s : Bytes) (hs : s.length ≤ 281474976710656) (B C : Nat) (hB : w.heap.size ≤ B) (hC : C = B + 4) (r : Loop)
    (hround : ∀ (W : World) (rest : Bytes) (zs : List Int) (p : Bytes), p.length ≤ s.length → PI w s rest zs B C W → zs.length ≤ s.length → W.heap[C + 4]? = some (.loop r) →
      YieldAt Fence.wide 1 Tryz.prog (C + 4) #[str p] W fun e W' => ∃ v, e = .returned v ∧ RoundR w s rest zs p B C r v W')
    (W : World) (hW : PI w s s [] B C W) (hl : W.heap[C + 4]? = some (.loop r)) :
    Calls Tryz.prog 160 #[.func (.yield (C + 4)) #[] #[], .pointer (some ⟨C + 1, 0, none⟩), .pointer (some ⟨C, 0, none⟩), .pointer (some ⟨C + 1 + 1, 0, none⟩)] W fun e W' => (∃ v, e = .returned v) ∧ IterEnd w s B C r W' := by
  have d1 : W.cell? ⟨C + 1, 0, none⟩ = some (str [46]) := hW.c1.cell 0
  have HBC := Lib.hid (And.intro hB hC)
  clear hB hC
  refine (callsIn_wide (n := 2)).1 ?_
  refine callsIn_of_wp Tryz.func160 rfl trivial ?_ rfl
  simp only [Tryz.ntmps160, List.size_toArray, List.length_cons, List.length_nil, Nat.reduceAdd, Nat.reduceSub, Array.replicate_succ, Array.replicate_zero, List.push_toArray, List.append_toArray, List.nil_append, List.cons_append]
  gi_wp2
  gi_loopw [] (fun wr => ∃ (rest : Bytes) (zs : List Int), RowKit.Hid (PI w s rest zs B C wr ∧ wr.heap[C + 4]? = some (.loop r) ∧ atoiEach (cuts 46 s) = (atoiEach (cuts 46 rest)).map (zs ++ ·) ∧ rest.length + zs.length ≤ s.length ∧ (zs = [] → rest = s)))
    (fun wr => leftAt C wr)
  case atStart => exact ⟨s, [], Lib.hid ⟨hW, hl, by simp, by simp, fun _ => rfl⟩⟩
  case round =>
    obtain ⟨rest, zs, HI⟩ := hrel
    obtain ⟨hp, hrec, heq, hlen, hst⟩ := HI.out
    have e0 : wr.cell? ⟨C, 0, none⟩ = some (str rest) := hp.c0.cell 0
    have e1 : wr.cell? ⟨C + 1, 0, none⟩ = some (str [46]) := hp.c1.cell 0
    have e2 : wr.cell? ⟨C + 1 + 1, 0, none⟩ = some (.int .i64 0) := hp.c2.cell 0
    have HX := Lib.hid (index_dot rest 46 wr)
    obtain ⟨ix, hix⟩ : ∃ ix, ix = Go.Lib.indexByte rest 46 := ⟨_, rfl⟩
    have hge := Go.Lib.indexByte_ge rest 46
    rw [← hix] at HX hge
    rcases (show ix < 0 ∨ 0 ≤ ix by omega) with h0 | h0
    · obtain rfl : ix = -1 := by omega
      have hc := cuts_last hix.symm
      obtain ⟨fn, tmps, assign, body, hy, hR⟩ := hround wr rest zs rest (by omega) hp (by omega) hrec
      have HH := Lib.hid (And.intro hc heq)
      have HH2 := Lib.hid (And.intro hst hlen)
      clear hp hrec heq hix hge h0 hc hst hlen
      gi_wp2_with (refine ⟨trivial, ?_⟩; gi_at_call 41; refine (callsIn_wide.2 HX.out).mono ?_; rintro e w' ⟨rfl, rfl⟩)
      refine hR.mono ?_
      rintro e W3 ⟨v, rfl, hrr⟩
      rcases hrr with ⟨rfl, hne, z, hz, hp3, hr3⟩ | ⟨rfl, he, hp3, hr3⟩ | ⟨rfl, hne, hno, hp3, hr3⟩
      · have HE := Lib.hid (And.intro hne (And.intro hz (And.intro hp3 hr3)))
        clear hne hz hp3 hr3
        gi_wp2
        go_end0
        refine ⟨⟨_, rfl⟩, .inl ⟨HE.out.1, zs ++ [z], rest, ?_, HE.out.2.2.1, HE.out.2.2.2⟩⟩
        rw [HH.out.2, HH.out.1]
        simp [atoiEach, HE.out.2.1]
      · have HE := Lib.hid (And.intro he (And.intro hp3 hr3))
        clear he hp3 hr3
        gi_wp2
        go_end0
        have hz0 : zs = [] := List.eq_nil_of_length_eq_zero (by have h1 := HH2.out.2; rw [HE.out.1, List.length_nil] at h1; omega)
        have hr0 : rest = [] := List.eq_nil_of_length_eq_zero (by have h1 := HH2.out.2; rw [HE.out.1, List.length_nil] at h1; omega)
        subst hz0 hr0
        exact ⟨⟨_, rfl⟩, .inr (.inl HE.out)⟩
      · have HE := Lib.hid (And.intro hne (And.intro hno (And.intro hp3 hr3)))
        clear hne hno hp3 hr3
        gi_wp2
        go_end0
        refine ⟨⟨_, rfl⟩, .inr (.inr ⟨HE.out.1, ?_, HE.out.2.2.1, HE.out.2.2.2⟩)⟩
        rw [HH.out.2, HH.out.1, atoiEach_no HE.out.2.1]
        rfl
    · obtain ⟨k, rfl⟩ := Int.eq_ofNat_of_zero_le h0
      obtain ⟨hk, hc⟩ := cuts_next hix.symm
      have hs1 := take_text rest k (by omega)
      have hs2 := drop_text rest k hk
      obtain ⟨p, hpp⟩ : ∃ p, p = rest.take k := ⟨_, rfl⟩
      obtain ⟨q, hq⟩ : ∃ q, q = rest.drop (k + 1) := ⟨_, rfl⟩
      have hpl : p.length ≤ s.length := by rw [hpp, List.length_take]; omega
      have hql : q.length + (k + 1) = rest.length := by rw [hq, List.length_drop]; omega
      have hw1 : wrap64 (k : Int) = k := by unfold wrap64; omega
      have hw2 : wrap64 ((k : Int) + 1) = (k : Int) + 1 := by unfold wrap64; omega
      have hd0 : decide ((k : Int) < 0) = false := decide_eq_false (by omega)
      rw [← hpp] at hs1
      rw [← hq] at hs2
      rw [← hpp, ← hq] at hc
      obtain ⟨fn, tmps, assign, body, hy, hR⟩ := hround wr rest zs p hpl hp (by omega) hrec
      have HH := Lib.hid (And.intro hc (And.intro heq (And.intro hst hlen)))
      clear hp hrec heq hix hge hc hpp hq hpl hst
      gi_wp2_with (refine ⟨trivial, ?_⟩; gi_at_call 41; refine (callsIn_wide.2 HX.out).mono ?_; rintro e w' ⟨rfl, rfl⟩)
      refine hR.mono ?_
      rintro e W3 ⟨v, rfl, hrr⟩
      rcases hrr with ⟨rfl, hne, z, hz, hp3, hr3⟩ | ⟨rfl, he, hp3, hr3⟩ | ⟨rfl, hne, hno, hp3, hr3⟩
      · have f0 : W3.cell? ⟨C, 0, none⟩ = some (str rest) := hp3.c0.cell 0
        have f1 : W3.cell? ⟨C + 1, 0, none⟩ = some (str [46]) := hp3.c1.cell 0
        have ff := hp3.c0.froz 0
        have HE := Lib.hid (And.intro hne (And.intro hz (And.intro hp3 hr3)))
        clear hne hz hp3 hr3 e0 e1 e2
        gi_wp2
        go_roundw
        case rel =>
          refine ⟨q, zs ++ [z], Lib.hid ⟨HE.out.2.2.1.turn HBC.out.1 HBC.out.2 q, ?_, ?_, ?_, fun h => absurd h (by simp)⟩⟩
          · rw [Below.heap_setCell W3 ⟨C, 0, none⟩ _ (C + 4) (by simp)]
            exact HE.out.2.2.2
          · rw [HH.out.2.1, HH.out.1, atoiEach, HE.out.2.1]
            simp only [Option.map_map]
            congr 1
            funext l
            simp
          · have := HH.out.2.2.2
            rw [List.length_append, List.length_singleton]
            omega
        case measure =>
          rw [leftAt_eq (HI.out.1.c0.cell 0), leftAt_eq ((HE.out.2.2.1.turn HBC.out.1 HBC.out.2 q).c0.cell 0)]
          omega
      · have h1 := HH.out.2.2.2
        rw [he, List.length_nil] at h1
        omega
      · have HE := Lib.hid (And.intro hne (And.intro hno (And.intro hp3 hr3)))
        clear hne hno hp3 hr3
        gi_wp2
        refine bodyPost_ret (results_none rfl _ _ _) rfl ?_
        refine ⟨⟨_, rfl⟩, .inr (.inr ⟨HE.out.1, ?_, HE.out.2.2.1, HE.out.2.2.2⟩)⟩
        rw [HH.out.2.1, HH.out.1, atoiEach_no HE.out.2.1]
        rfl
end Go.Proofs.YtalbllijahiiiaaGreatDoor
