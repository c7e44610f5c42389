/- (*desk).line, whole. desk.Run. -/
import Derived.Test.YtalbllijahiiiaaGreatDoorDkAU
section
namespace Go.Proofs.YtalbllijahiiiaaGreatDoor
open Go.RowKit Go.Mine Go.Mine.Desk Go.Maps

theorem f1_enters (a : Array Value) (w : World) : Sem.run Tryz.prog (callFunc 42 a) w = .ok (.enter 42 a) w := by kernel_rfl
theorem f2_enters (a : Array Value) (w : World) : Sem.run Tryz.prog (callFunc 45 a) w = .ok (.enter 45 a) w := by kernel_rfl
theorem f3_enters (a : Array Value) (w : World) : Sem.run Tryz.prog (callFunc 46 a) w = .ok (.enter 46 a) w := by kernel_rfl
theorem f4_enters (a : Array Value) (w : World) : Sem.run Tryz.prog (callFunc 47 a) w = .ok (.enter 47 a) w := by kernel_rfl
theorem f5_enters (a : Array Value) (w : World) : Sem.run Tryz.prog (callFunc 51 a) w = .ok (.enter 51 a) w := by kernel_rfl
theorem f6_enters (a : Array Value) (w : World) : Sem.run Tryz.prog (callFunc 55 a) w = .ok (.enter 55 a) w := by kernel_rfl
theorem f7_enters (a : Array Value) (w : World) : Sem.run Tryz.prog (callFunc 60 a) w = .ok (.enter 60 a) w := by kernel_rfl
theorem f8_enters (a : Array Value) (w : World) : Sem.run Tryz.prog (callFunc 64 a) w = .ok (.enter 64 a) w := by kernel_rfl
theorem fF1 : formsF kInt = some (formV 2 42) := by simp [formsF, upd, kInt, kMany, kLimit, kCount, kNth, kShow, kLess, kRun]
theorem fF2 : formsF kMany = some (formV 3 45) := by simp [formsF, upd, kMany, kLimit, kCount, kNth, kShow, kLess, kRun]
theorem fF3 : formsF kLimit = some (formV 1 46) := by simp [formsF, upd, kLimit, kCount, kNth, kShow, kLess, kRun]
theorem fF4 : formsF kCount = some (formV 0 47) := by simp [formsF, upd, kCount, kNth, kShow, kLess, kRun]
theorem fF5 : formsF kNth = some (formV 1 51) := by simp [formsF, upd, kNth, kShow, kLess, kRun]
theorem fF6 : formsF kShow = some (formV 1 55) := by simp [formsF, upd, kShow, kLess, kRun]
theorem fF7 : formsF kLess = some (formV 1 60) := by simp [formsF, upd, kLess, kRun]
theorem fF8 : formsF kRun = some (formV 2 64) := by simp [formsF, upd, kRun]
theorem formsF_any (x : Bytes) : formsF x = none ∨ ∃ nw fk, formsF x = some (formV nw fk) ∧ 0 ≤ nw ∧ nw ≤ 3 ∧ (nw = 0 → x = kCount) ∧ (nw = 1 → x = kLimit ∨ x = kNth ∨ x = kShow ∨ x = kLess) ∧ (nw = 2 → x = kInt ∨ x = kRun) ∧ (nw = 3 → x = kMany) := by
  by_cases h1 : x = kInt
  · subst h1; exact .inr ⟨_, _, fF1, by decide, by decide, by decide, by decide, fun _ => .inl rfl, by decide⟩
  by_cases h2 : x = kMany
  · subst h2; exact .inr ⟨_, _, fF2, by decide, by decide, by decide, by decide, by decide, fun _ => rfl⟩
  by_cases h3 : x = kLimit
  · subst h3; exact .inr ⟨_, _, fF3, by decide, by decide, by decide, fun _ => .inl rfl, by decide, by decide⟩
  by_cases h4 : x = kCount
  · subst h4; exact .inr ⟨_, _, fF4, by decide, by decide, fun _ => rfl, by decide, by decide, by decide⟩
  by_cases h5 : x = kNth
  · subst h5; exact .inr ⟨_, _, fF5, by decide, by decide, by decide, fun _ => .inr (.inl rfl), by decide, by decide⟩
  by_cases h6 : x = kShow
  · subst h6; exact .inr ⟨_, _, fF6, by decide, by decide, by decide, fun _ => .inr (.inr (.inl rfl)), by decide, by decide⟩
  by_cases h7 : x = kLess
  · subst h7; exact .inr ⟨_, _, fF7, by decide, by decide, by decide, fun _ => .inr (.inr (.inr rfl)), by decide, by decide⟩
  by_cases h8 : x = kRun
  · subst h8; exact .inr ⟨_, _, fF8, by decide, by decide, by decide, by decide, fun _ => .inr rfl, by decide⟩
  exact .inl (by simp [formsF, upd, h1, h2, h3, h4, h5, h6, h7, h8])
theorem line_any (db : Nat) (g : G) (n : Int) (s : Bytes) (hs : s.length ≤ 1100000) (w : World) (hg : Gl w) (hd : DeskAt w db g n) :
    Calls Tryz.prog 12 #[.pointer (some ⟨db, 0, none⟩), str s] w (LinePost (lineR (g, n) s) db w) := by
  unfold lineR
  cases hl : cuts 32 s with
  | nil => exact absurd hl (cuts_ne 32 s)
  | cons x0 args =>
    have hx : ∀ x ∈ args, x.length ≤ 1100000 := fun x hx => Nat.le_trans (cuts_part 32 s x (by rw [hl]; exact List.mem_cons_of_mem _ hx)) hs
    have hno : wordsR (g, n) (x0 :: args) = .error 7 → (∀ nw fk, formsF x0 = some (formV nw fk) → (args.length : Int) ≠ nw) → Calls Tryz.prog 12 #[.pointer (some ⟨db, 0, none⟩), str s] w (LinePost (lineOut (g, n) (wordsR (g, n) (x0 :: args))) db w) := by
      intro he hne
      rw [he]
      refine line_none db g n s x0 args hs hl ?_ w hg hd
      rcases formsF_any x0 with h | ⟨nw, fk, h, h0, h3, _⟩
      · exact .inl h
      · exact .inr ⟨nw, fk, h, hne nw fk h, h0, h3⟩
    have hval : ∀ nw fk, formsF x0 = some (formV nw fk) → (nw = 0 → x0 = kCount) ∧ (nw = 1 → x0 = kLimit ∨ x0 = kNth ∨ x0 = kShow ∨ x0 = kLess) ∧ (nw = 2 → x0 = kInt ∨ x0 = kRun) ∧ (nw = 3 → x0 = kMany) ∧ nw ≤ 3 := by
      intro nw fk h
      rcases formsF_any x0 with h' | ⟨nw', fk', h', _, h3', a, b, c, d⟩
      · rw [h] at h'; cases h'
      · rw [h] at h'
        cases h'
        exact ⟨a, b, c, d, h3'⟩
    match args, hl, hx, hno with
    | [], hl, hx, hno =>
      by_cases hk : x0 = kCount
      · subst hk
        exact line_core db g n s kCount [] hs hl 0 _ fF4 rfl (by decide) f4_enters (countR (g, n)) (fun wx wo wc hg' hd' _ => form4_any db g n wo 0 wc wx hg' hd') w hg hd
      · refine hno (by simp [wordsR, hk]) (fun nw fk h e => ?_)
        exact hk ((hval nw fk h).1 (by rw [← e]; rfl))
    | [x], hl, hx, hno =>
      have hx1 := hx x (by simp)
      by_cases hk1 : x0 = kLimit
      · subst hk1
        exact line_core db g n s kLimit [x] hs hl 1 _ fF3 rfl (by decide) f3_enters (limitR (g, n) x) (fun wx wo wc hg' hd' hw' => form3_any db g n wo wc x hx1 wx hg' hd' hw') w hg hd
      by_cases hk2 : x0 = kNth
      · subst hk2
        exact line_core db g n s kNth [x] hs hl 1 _ fF5 rfl (by decide) f5_enters (nthF (g, n) x) (fun wx wo wc hg' hd' hw' => form5_any db g n wo wc x hx1 wx hg' hd' hw') w hg hd
      by_cases hk3 : x0 = kShow
      · subst hk3
        exact line_core db g n s kShow [x] hs hl 1 _ fF6 rfl (by decide) f6_enters (showF (g, n) x) (fun wx wo wc hg' hd' hw' => form6_any db g n wo wc x hx1 wx hg' hd' hw') w hg hd
      by_cases hk4 : x0 = kLess
      · subst hk4
        exact line_core db g n s kLess [x] hs hl 1 _ fF7 rfl (by decide) f7_enters (lessF (g, n) x) (fun wx wo wc hg' hd' hw' => form7_any db g n wo wc x hx1 wx hg' hd' hw') w hg hd
      · refine hno (by simp [wordsR, hk1, hk2, hk3, hk4]) (fun nw fk h e => ?_)
        rcases (hval nw fk h).2.1 (by rw [← e]; rfl) with h | h | h | h
        · exact hk1 h
        · exact hk2 h
        · exact hk3 h
        · exact hk4 h
    | [x, y], hl, hx, hno =>
      have hx1 := hx x (by simp)
      have hx2 := hx y (by simp)
      by_cases hk1 : x0 = kInt
      · subst hk1
        exact line_core db g n s kInt [x, y] hs hl 2 _ fF1 rfl (by decide) f1_enters (intR (g, n) x y) (fun wx wo wc hg' hd' hw' => form1_any db g n wo wc x y hx1 hx2 wx hg' hd' hw') w hg hd
      by_cases hk2 : x0 = kRun
      · subst hk2
        exact line_core db g n s kRun [x, y] hs hl 2 _ fF8 rfl (by decide) f8_enters (runF2 (g, n) x y) (fun wx wo wc hg' hd' hw' => form8_any db g n wo wc x y hx1 hx2 wx hg' hd' hw') w hg hd
      · refine hno (by simp [wordsR, hk1, hk2]) (fun nw fk h e => ?_)
        rcases (hval nw fk h).2.2.1 (by rw [← e]; rfl) with h | h
        · exact hk1 h
        · exact hk2 h
    | [x, y, z], hl, hx, hno =>
      have hx1 := hx x (by simp)
      have hx2 := hx y (by simp)
      have hx3 := hx z (by simp)
      by_cases hk1 : x0 = kMany
      · subst hk1
        exact line_core db g n s kMany [x, y, z] hs hl 3 _ fF2 rfl (by decide) f2_enters (manyR (g, n) x y z) (fun wx wo wc hg' hd' hw' => form2_any db g n wo wc x y z hx1 hx2 hx3 wx hg' hd' hw') w hg hd
      · refine hno (by simp [wordsR, hk1]) (fun nw fk h e => ?_)
        exact hk1 ((hval nw fk h).2.2.2.1 (by rw [← e]; rfl))
    | x :: y :: z :: u :: r, hl, hx, hno =>
      refine hno (by simp [wordsR]) (fun nw fk h e => ?_)
      have h3 := (hval nw fk h).2.2.2.2
      rw [← e] at h3
      simp only [List.length_cons] at h3
      omega
end Go.Proofs.YtalbllijahiiiaaGreatDoor
end

section
namespace Go.Proofs.YtalbllijahiiiaaGreatDoor
open Go.RowKit Go.Mine Go.Mine.Desk Go.Maps

def linesOf (s : Bytes) : List Bytes := if (cuts 10 s).getLast (cuts_ne 10 s) = [] then (cuts 10 s).dropLast else cuts 10 s
def answers : St → List Bytes → List Bytes
  | _, [] => []
  | st, l :: r => (lineR st l).1 :: answers (lineR st l).2 r
def endSt : St → List Bytes → St
  | st, [] => st
  | st, l :: r => endSt (lineR st l).2 r
def st0 : St := (.int 0 9, 5)
def runV (s : Bytes) : List Bytes := if 100 < (linesOf s).length then [errName 4] else answers st0 (linesOf s)
theorem answers_len : ∀ (st : St) (l : List Bytes), (answers st l).length = l.length
  | _, [] => rfl
  | st, l :: r => by rw [answers, List.length_cons, answers_len _ r, List.length_cons]
theorem answers_append : ∀ (st : St) (a b : List Bytes), answers st (a ++ b) = answers st a ++ answers (endSt st a) b
  | _, [], _ => rfl
  | st, x :: a, b => by
    rw [List.cons_append, answers, answers, answers_append _ a b]
    rfl
theorem linesOf_len (s : Bytes) : (linesOf s).length ≤ (cuts 10 s).length := by
  unfold linesOf
  split
  · rw [List.length_dropLast]; omega
  · omega
theorem linesOf_part (s : Bytes) : ∀ p ∈ linesOf s, p.length ≤ s.length := fun p hp => by
  refine cuts_part 10 s p ?_
  unfold linesOf at hp
  split at hp
  · exact List.dropLast_subset _ hp
  · exact hp
theorem linesOf_get (s : Bytes) (j : Nat) (hj : j < (linesOf s).length) : (cuts 10 s).getD j [] = (linesOf s).getD j [] := by
  have h := linesOf_len s
  unfold linesOf at hj ⊢
  split
  · rename_i hl
    rw [if_pos hl, List.length_dropLast] at hj
    simp [show j < (cuts 10 s).length - 1 by omega, show j < (cuts 10 s).length by omega]
  · rfl
theorem owns_kind {w : World} {base n : Nat} {v : Value} {xs : List Value} (h : w.ownsRow base 9 1 v n xs) {b : Nat} {T : TypeId} {cs : Array Value} (hb : Blk w b T cs) (hne : T ≠ 9) : some b ≠ v.ownBlock := by
  rcases h.2 with ⟨rfl, _⟩ | ⟨g', cap, cur, rfl, _, hc, _⟩
  · simp [Value.ownBlock]
  · intro e
    simp only [Value.ownBlock, Option.some.injEq] at e
    exact blk_types hb (show Blk w g' 9 cur from hc) hne e
theorem owns_touch {w w' : World} {base db n : Nat} {v : Value} {xs : List Value} (h : w.ownsRow base 9 1 v n xs) (hd : db < base) (ht : Tch (fun k => k = db) w w') : w'.ownsRow base 9 1 v n xs :=
  owns_block h fun g hg hv => ht.block g (h.lt g hv).2 (by omega)
theorem DeskIs.push {w w' : World} {db : Nat} {d : DV} {g : G} {n : Int} (h : DeskIs w db d g n) {base m : Nat} {v : Value} {xs : List Value} (ho : w.ownsRow base 9 1 v m xs) (hg : w.grownBy w' v.ownBlock) : DeskIs w' db d g n :=
  ⟨(hg.block db h.blk.lt (owns_kind ho h.blk (by decide))).trans h.blk,
    h.gen.kept fun x _ _ hs => hg.block x hs.lt (owns_kind ho (show Blk w x 28 _ from hs) (by decide)),
    (hg.block d.eb (show Blk w d.eb 41 _ from h.expr).lt (owns_kind ho (show Blk w d.eb 41 _ from h.expr) (by decide))).trans h.expr, h.right, h.lim⟩
structure RD (w : World) (s : Bytes) (q db k : Nat) (ov : Value) (W : World) : Prop where
  below : Below w.heap.size w W
  row : Blk W q 9 ((cuts 10 s).map str).toArray
  desk : DeskAt W db (endSt st0 ((linesOf s).take k)).1 (endSt st0 ((linesOf s).take k)).2
  own : W.ownsRow (db + 1) 9 1 ov k ((answers st0 ((linesOf s).take k)).map str)
theorem endSt_append : ∀ (st : St) (a b : List Bytes), endSt st (a ++ b) = endSt (endSt st a) b
  | _, [], _ => rfl
  | st, x :: a, b => by rw [List.cons_append, endSt, endSt_append _ a b, endSt]
theorem RD.touch {w : World} {s : Bytes} {q db k : Nat} {ov : Value} {W W' : World} (h : RD w s q db k ov W) (hq : q < db) (hdw : w.heap.size ≤ db) (ht : Tch (fun x => x = db) W W') : Below w.heap.size w W' ∧ Blk W' q 9 ((cuts 10 s).map str).toArray ∧ W'.ownsRow (db + 1) 9 1 ov k ((answers st0 ((linesOf s).take k)).map str) :=
  ⟨h.below.trans (ht.below h.below.size fun x hx => by omega), h.row.touch ht (by omega), owns_touch h.own (by omega) ht⟩
theorem RD.next {w : World} {s p : Bytes} {q db k g cap : Nat} {ov : Value} {W W' : World} (hk : (linesOf s)[k]? = some p) (hb : Below w.heap.size w W) (hrow : Blk W q 9 ((cuts 10 s).map str).toArray) (hq : q < db)
    (hd : DeskAt W db (lineR (endSt st0 ((linesOf s).take k)) p).2.1 (lineR (endSt st0 ((linesOf s).take k)) p).2.2) (ho : W.ownsRow (db + 1) 9 1 ov k ((answers st0 ((linesOf s).take k)).map str)) (hg : W.grownBy W' ov.ownBlock) (hdw : w.heap.size ≤ db)
    (hown : W'.ownsRow (db + 1) 9 1 (.slice (some ⟨g, 0, none⟩) (k + 1) cap) (k + 1) (((answers st0 ((linesOf s).take k)).map str) ++ [str (lineR (endSt st0 ((linesOf s).take k)) p).1])) : RD w s q db (k + 1) (.slice (some ⟨g, 0, none⟩) (k + 1) cap) W' := by
  have e : (linesOf s).take (k + 1) = (linesOf s).take k ++ [p] := by rw [List.take_add_one, hk]; rfl
  obtain ⟨d, hd⟩ := hd
  refine ⟨hb.grown hg hb.size (fun x hx => by have := (ho.lt x hx).1; omega), (hg.block q hrow.lt (fun e => by have := (ho.lt q e.symm).1; omega)).trans hrow, ?_, ?_⟩
  · rw [e, endSt_append]
    exact (hd.push ho hg).at
  · rw [e, answers_append, List.map_append]
    exact hown
set_option maxRecDepth 100000 in
set_option maxHeartbeats 8000000 in
theorem drun_script (s : Bytes) (hs : s.length ≤ 1100000) (w : World) (hg : Gl w) :
    Calls Tryz.prog 6 #[str s] w fun e w' => (∃ u, e = .returned u ∧ w'.ownsRow w.heap.size 9 1 u (runV s).length ((runV s).map str)) ∧ Below w.heap.size w w' := by
  obtain ⟨i0, hi0, hz0, hz1, hz2⟩ := info_parts infoStr
  obtain ⟨m, hm⟩ : ∃ m, m = (cuts 10 s).length := ⟨_, rfl⟩
  have hm1 : 1 ≤ m := by rw [hm]; exact List.length_pos_iff.2 (cuts_ne 10 s)
  have hm2 : m ≤ 1100001 := by have := cuts_length 10 s; omega
  obtain ⟨q, hq⟩ : ∃ q, q = w.heap.size := ⟨_, rfl⟩
  obtain ⟨w1, hw1⟩ : ∃ w1, w1 = w.alloc (.cells ((cuts 10 s).map str).toArray 9) := ⟨_, rfl⟩
  have hb1 : Below w.heap.size w w1 := by rw [hw1]; exact (Below.refl _ _).alloc (Nat.le_refl _) _
  have k1 : Blk w1 q 9 ((cuts 10 s).map str).toArray := by rw [hw1, hq]; exact Blk.new _ _ _
  have HS := Lib.hid (cutText_any s 10 (by omega) w hg)
  rw [← hm, ← hw1, ← hq] at HS
  obtain ⟨la, hla⟩ : ∃ la, la = (cuts 10 s).getLast (cuts_ne 10 s) := ⟨_, rfl⟩
  have clast : w1.cell? ⟨q, m - 1, none⟩ = some (str la) := by
    rw [cell_strs k1 (m - 1) (by omega), hla, List.getLast_eq_getElem]
    simp [hm, show (cuts 10 s).length - 1 < (cuts 10 s).length by omega]
  have H1 := Lib.hid (And.intro hb1 (And.intro k1 (And.intro hg (And.intro hm (And.intro hla hq)))))
  have hmi : IntKind.i64.wrap ((m : Int) - 1) = ((m - 1 : Nat) : Int) := by rw [IntWalk.i64_in _ (by omega)]; omega
  have hmw : wrap64 ((m : Int) - 1) = ((m - 1 : Nat) : Int) := by unfold wrap64; omega
  have hmi1 : ((m - 1 : Nat) : Int) < (m : Int) := by omega
  have hmi0 : (0 : Int) ≤ ((m - 1 : Nat) : Int) := by omega
  clear hw1 hb1 k1 hg hm hla hq
  go_enter Tryz.func6, Tryz.ntmps6
  go_wp2_with fail
  refine HS.out.mono ?_
  clear HS
  rintro e w1' ⟨rfl, rfl⟩
  by_cases hle : la = []
  · subst hle
    obtain ⟨L, hLm⟩ : ∃ L, L = m - 1 := ⟨_, rfl⟩
    rw [← hLm] at hmi hmw hmi1 hmi0 clast
    have HLm := Lib.hid (show L = m - 1 from hLm)
    have HL := Lib.hid (show L = (linesOf s).length by rw [hLm]; unfold linesOf; rw [if_pos H1.out.2.2.2.2.1.symm, List.length_dropLast, H1.out.2.2.2.1])
    have hL2 : L ≤ 1100001 := by omega
    clear hLm
    by_cases h100 : 100 < L
    · have d : decide (100 < ((L : Nat) : Int)) = true := decide_eq_true (by omega)
      have HR := Lib.hid (show runV s = [errName 4] by unfold runV; rw [if_pos (by rw [← HL.out]; exact h100)])
      go_wp2_with fail
      refine (error_any 4 _).mono ?_
      rintro e w2 ⟨rfl, rfl⟩
      go_wp2_with fail
      go_ret
      rw [HR.out]
      exact ⟨⟨_, rfl, (World.ownsRow_lit w2 #[str (errName 4)] 1 H1.out.1.size (by unfold maxLen; omega) rfl)⟩, H1.out.1.alloc H1.out.1.size _⟩
    · have d : decide (100 < ((L : Nat) : Int)) = false := decide_eq_false (by omega)
      have HR := Lib.hid (show runV s = answers st0 (linesOf s) by unfold runV; rw [if_neg (by rw [← HL.out]; exact h100)])
      go_wp2_with fail
      refine (limit_any 5 _).mono ?_
      rintro e w2 ⟨⟨eb, rfl, heb, hexp⟩, hb2⟩
      have H2 := Lib.hid (And.intro heb (And.intro hexp hb2))
      clear heb hexp hb2
      simp only [wholeE]
      go_wp2_with fail
      obtain ⟨db, hdb⟩ : ∃ db, db = w2.heap.size := ⟨_, rfl⟩
      obtain ⟨w3, hw3⟩ : ∃ w3, w3 = w2.alloc (.cells #[.int .i64 2, .int .i64 0, .int .i64 9, .slice none 0 0, .int .i64 7, .int .i64 0, .slice (some ⟨eb, 0, none⟩) 2 2] 44) := ⟨_, rfl⟩
      have hb3 : Below w2.heap.size w2 w3 := by rw [hw3]; exact (Below.refl _ _).alloc (Nat.le_refl _) _
      have kd : Blk w3 db 44 (DV.cells ⟨2, 0, 9, none, 0, 0, eb⟩) := by rw [hw3, hdb]; exact Blk.new _ _ _
      have hz2 : w.heap.size ≤ w2.heap.size := Nat.le_trans H1.out.1.size H2.out.2.2.size
      have hq2 : q < w2.heap.size := (H1.out.2.1.below H2.out.2.2).lt
      have HI0 := Lib.hid (show RD w s q db 0 (.slice none 0 0) w3 from
        ⟨H1.out.1.trans ((H2.out.2.2.trans (hb3.mono H2.out.2.2.size)).mono H1.out.1.size), (H1.out.2.1.below H2.out.2.2).below hb3,
          ⟨⟨2, 0, 9, none, 0, 0, eb⟩, kd, rfl, (show Blk w2 eb _ _ from H2.out.2.1).below hb3, show (G.int 0 9).right by decide, show near 5 by unfold near; omega⟩, World.ownsRow_nil _ _ _ _⟩)
      have hqd : q < db := by omega
      have hwd : w.heap.size ≤ db := by omega
      rw [← hdb, ← hw3]
      clear hw3 hdb hb3 kd hz2 hq2
      go_loopg [5, 33] L (fun gq ov iv wr => ∃ k : Nat, iv = .int .i64 (k : Int) ∧ k + gq = L ∧ RowKit.Hid (RD w s q db k ov wr))
      case atStart => exact ⟨0, rfl, by omega, HI0⟩
      case round =>
        obtain ⟨k, rfl, hkg, HK⟩ := hrel
        rcases Nat.eq_zero_or_pos gk with hz | hz
        · have hkm : k = L := by omega
          subst k
          have dr : decide (((L : Nat) : Int) < ((L : Nat) : Int)) = false := decide_eq_false (by omega)
          go_wp2_with fail
          go_ret
          have hO := HK.out.own
          rw [HL.out, List.take_of_length_le (Nat.le_refl _)] at hO
          rw [HR.out, answers_len]
          exact ⟨⟨_, rfl, hO.mono (by omega)⟩, HK.out.below⟩
        · have hkl : k < L := by omega
          have dr : decide ((k : Int) < ((L : Nat) : Int)) = true := decide_eq_true (by omega)
          have hi0' : (0 : Int) ≤ (k : Int) := by omega
          have hi1 : (k : Int) < ((L : Nat) : Int) := by omega
          have hw1 : IntKind.i64.wrap ((k : Int) + 1) = ((k + 1 : Nat) : Int) := by rw [IntWalk.i64_in _ (by omega)]; omega
          obtain ⟨p, hp⟩ : ∃ p, p = (linesOf s).getD k [] := ⟨_, rfl⟩
          have hpe : (linesOf s)[k]? = some p := by rw [hp]; simp [show k < (linesOf s).length by rw [← HL.out]; exact hkl]
          have c0 : wr.cell? ⟨q, k, none⟩ = some (str p) := by rw [cell_strs HK.out.row k (by have := linesOf_len s; rw [← HL.out] at this; omega), linesOf_get s k (by rw [← HL.out]; exact hkl), ← hp]
          have HLN := Lib.hid (line_any db _ _ p (Nat.le_trans (linesOf_part s p (List.mem_of_getElem? hpe)) hs) wr (H1.out.2.2.1.on HK.out.below) HK.out.desk)
          have HPE := Lib.hid hpe
          clear hp hpe
          go_wp2_with fail
          refine HLN.out.mono ?_
          clear HLN
          rintro e w5 ⟨ht5, rfl, hd5⟩
          obtain ⟨hb5, hr5, ho5⟩ := HK.out.touch hqd hwd ht5
          have H5 := Lib.hid (And.intro hb5 (And.intro hr5 (And.intro hd5 ho5)))
          have hsz5 : db + 1 ≤ w5.heap.size := by
            obtain ⟨d5, hd5⟩ := hd5
            exact hd5.blk.lt
          clear ht5 hb5 hr5 hd5 ho5 c0
          obtain ⟨pr, hpr⟩ : ∃ pr, pr = lineR (endSt st0 ((linesOf s).take k)) p := ⟨_, rfl⟩
          rw [show ((endSt st0 (List.take k (linesOf s))).fst, (endSt st0 (List.take k (linesOf s))).snd) = endSt st0 (List.take k (linesOf s)) from rfl] at H5 ⊢
          rw [← hpr] at H5 ⊢
          have HPR := Lib.hid hpr
          clear hpr
          obtain ⟨out, st1⟩ := pr
          have HO := Lib.hid H5.out.2.2.2
          go_wp2_with (at_builtin; refine wpList_push2 _ rfl _ _ 23 rfl (db + 1) 9 i0 (.string ⟨#[]⟩) 1 16 Tryz.underlying23 hi0 hz0 hz1 hz2 rfl (by decide) _ _ _ rfl (HO.out.alloc _) ⟨w5.heap.size, 0, none⟩ 1 [str out] rfl rfl (World.news_of_block (cs := #[str out]) (t := 9) (fr := (0, 0)) (heap_alloc_at _ _ rfl)) (str1 _) (by unfold maxLen; omega) (by omega) (by simp; omega) ?_)
          intro g cap w7 hown hgr hat7
          have hb5 : Below w5.heap.size w5 (w5.alloc (.cells #[str out] 9)) := (Below.refl _ _).alloc (Nat.le_refl _) _
          have HK2 := Lib.hid (show RD w s q db (k + 1) (.slice (some ⟨g, 0, none⟩) (k + 1) cap) w7 from by
            obtain ⟨d5, hd5⟩ := H5.out.2.2.1
            exact RD.next HPE.out (H5.out.1.trans (hb5.mono H5.out.1.size)) (H5.out.2.1.below hb5) hqd (by rw [← HPR.out]; exact (hd5.on hb5).at) (HO.out.alloc _) hgr hwd (by rw [← HPR.out]; exact hown))
          clear hown hgr hat7 hb5
          go_wp2_with fail
          go_roundg (gk - 1)
          case rel => exact ⟨k + 1, by go_num, by omega, HK2⟩
          case measure => omega
  · have hem : List.isEmpty la = false := by cases la with | nil => exact absurd rfl hle | cons _ _ => rfl
    have HL := Lib.hid (show m = (linesOf s).length by unfold linesOf; rw [if_neg (by rw [← H1.out.2.2.2.2.1]; exact hle), H1.out.2.2.2.1])
    by_cases h100 : 100 < m
    · have d : decide (100 < ((m : Nat) : Int)) = true := decide_eq_true (by omega)
      have HR := Lib.hid (show runV s = [errName 4] by unfold runV; rw [if_pos (by rw [← HL.out]; exact h100)])
      go_wp2_with fail
      refine (error_any 4 _).mono ?_
      rintro e w2 ⟨rfl, rfl⟩
      go_wp2_with fail
      go_ret
      rw [HR.out]
      exact ⟨⟨_, rfl, (World.ownsRow_lit w2 #[str (errName 4)] 1 H1.out.1.size (by unfold maxLen; omega) rfl)⟩, H1.out.1.alloc H1.out.1.size _⟩
    · have d : decide (100 < ((m : Nat) : Int)) = false := decide_eq_false (by omega)
      have HR := Lib.hid (show runV s = answers st0 (linesOf s) by unfold runV; rw [if_neg (by rw [← HL.out]; exact h100)])
      go_wp2_with fail
      refine (limit_any 5 _).mono ?_
      rintro e w2 ⟨⟨eb, rfl, heb, hexp⟩, hb2⟩
      have H2 := Lib.hid (And.intro heb (And.intro hexp hb2))
      clear heb hexp hb2
      simp only [wholeE]
      go_wp2_with fail
      obtain ⟨db, hdb⟩ : ∃ db, db = w2.heap.size := ⟨_, rfl⟩
      obtain ⟨w3, hw3⟩ : ∃ w3, w3 = w2.alloc (.cells #[.int .i64 2, .int .i64 0, .int .i64 9, .slice none 0 0, .int .i64 7, .int .i64 0, .slice (some ⟨eb, 0, none⟩) 2 2] 44) := ⟨_, rfl⟩
      have hb3 : Below w2.heap.size w2 w3 := by rw [hw3]; exact (Below.refl _ _).alloc (Nat.le_refl _) _
      have kd : Blk w3 db 44 (DV.cells ⟨2, 0, 9, none, 0, 0, eb⟩) := by rw [hw3, hdb]; exact Blk.new _ _ _
      have hz2 : w.heap.size ≤ w2.heap.size := Nat.le_trans H1.out.1.size H2.out.2.2.size
      have hq2 : q < w2.heap.size := (H1.out.2.1.below H2.out.2.2).lt
      have HI0 := Lib.hid (show RD w s q db 0 (.slice none 0 0) w3 from
        ⟨H1.out.1.trans ((H2.out.2.2.trans (hb3.mono H2.out.2.2.size)).mono H1.out.1.size), (H1.out.2.1.below H2.out.2.2).below hb3,
          ⟨⟨2, 0, 9, none, 0, 0, eb⟩, kd, rfl, (show Blk w2 eb _ _ from H2.out.2.1).below hb3, show (G.int 0 9).right by decide, show near 5 by unfold near; omega⟩, World.ownsRow_nil _ _ _ _⟩)
      have hqd : q < db := by omega
      have hwd : w.heap.size ≤ db := by omega
      rw [← hdb, ← hw3]
      clear hw3 hdb hb3 kd hz2 hq2
      go_loopg [5, 33] m (fun gq ov iv wr => ∃ k : Nat, iv = .int .i64 (k : Int) ∧ k + gq = m ∧ RowKit.Hid (RD w s q db k ov wr))
      case atStart => exact ⟨0, rfl, by omega, HI0⟩
      case round =>
        obtain ⟨k, rfl, hkg, HK⟩ := hrel
        rcases Nat.eq_zero_or_pos gk with hz | hz
        · have hkm : k = m := by omega
          subst k
          have dr : decide (((m : Nat) : Int) < ((m : Nat) : Int)) = false := decide_eq_false (by omega)
          go_wp2_with fail
          go_ret
          have hO := HK.out.own
          rw [HL.out, List.take_of_length_le (Nat.le_refl _)] at hO
          rw [HR.out, answers_len]
          exact ⟨⟨_, rfl, hO.mono (by omega)⟩, HK.out.below⟩
        · have hkl : k < m := by omega
          have dr : decide ((k : Int) < ((m : Nat) : Int)) = true := decide_eq_true (by omega)
          have hi0' : (0 : Int) ≤ (k : Int) := by omega
          have hi1 : (k : Int) < ((m : Nat) : Int) := by omega
          have hw1 : IntKind.i64.wrap ((k : Int) + 1) = ((k + 1 : Nat) : Int) := by rw [IntWalk.i64_in _ (by omega)]; omega
          obtain ⟨p, hp⟩ : ∃ p, p = (linesOf s).getD k [] := ⟨_, rfl⟩
          have hpe : (linesOf s)[k]? = some p := by rw [hp]; simp [show k < (linesOf s).length by rw [← HL.out]; exact hkl]
          have c0 : wr.cell? ⟨q, k, none⟩ = some (str p) := by rw [cell_strs HK.out.row k (by have := linesOf_len s; rw [← HL.out] at this; omega), linesOf_get s k (by rw [← HL.out]; exact hkl), ← hp]
          have HLN := Lib.hid (line_any db _ _ p (Nat.le_trans (linesOf_part s p (List.mem_of_getElem? hpe)) hs) wr (H1.out.2.2.1.on HK.out.below) HK.out.desk)
          have HPE := Lib.hid hpe
          clear hp hpe
          go_wp2_with fail
          refine HLN.out.mono ?_
          clear HLN
          rintro e w5 ⟨ht5, rfl, hd5⟩
          obtain ⟨hb5, hr5, ho5⟩ := HK.out.touch hqd hwd ht5
          have H5 := Lib.hid (And.intro hb5 (And.intro hr5 (And.intro hd5 ho5)))
          have hsz5 : db + 1 ≤ w5.heap.size := by
            obtain ⟨d5, hd5⟩ := hd5
            exact hd5.blk.lt
          clear ht5 hb5 hr5 hd5 ho5 c0
          obtain ⟨pr, hpr⟩ : ∃ pr, pr = lineR (endSt st0 ((linesOf s).take k)) p := ⟨_, rfl⟩
          rw [show ((endSt st0 (List.take k (linesOf s))).fst, (endSt st0 (List.take k (linesOf s))).snd) = endSt st0 (List.take k (linesOf s)) from rfl] at H5 ⊢
          rw [← hpr] at H5 ⊢
          have HPR := Lib.hid hpr
          clear hpr
          obtain ⟨out, st1⟩ := pr
          have HO := Lib.hid H5.out.2.2.2
          go_wp2_with (at_builtin; refine wpList_push2 _ rfl _ _ 23 rfl (db + 1) 9 i0 (.string ⟨#[]⟩) 1 16 Tryz.underlying23 hi0 hz0 hz1 hz2 rfl (by decide) _ _ _ rfl (HO.out.alloc _) ⟨w5.heap.size, 0, none⟩ 1 [str out] rfl rfl (World.news_of_block (cs := #[str out]) (t := 9) (fr := (0, 0)) (heap_alloc_at _ _ rfl)) (str1 _) (by unfold maxLen; omega) (by omega) (by simp; omega) ?_)
          intro g cap w7 hown hgr hat7
          have hb5 : Below w5.heap.size w5 (w5.alloc (.cells #[str out] 9)) := (Below.refl _ _).alloc (Nat.le_refl _) _
          have HK2 := Lib.hid (show RD w s q db (k + 1) (.slice (some ⟨g, 0, none⟩) (k + 1) cap) w7 from by
            obtain ⟨d5, hd5⟩ := H5.out.2.2.1
            exact RD.next HPE.out (H5.out.1.trans (hb5.mono H5.out.1.size)) (H5.out.2.1.below hb5) hqd (by rw [← HPR.out]; exact (hd5.on hb5).at) (HO.out.alloc _) hgr hwd (by rw [← HPR.out]; exact hown))
          clear hown hgr hat7 hb5
          go_wp2_with fail
          go_roundg (gk - 1)
          case rel => exact ⟨k + 1, by go_num, by omega, HK2⟩
          case measure => omega
end Go.Proofs.YtalbllijahiiiaaGreatDoor
end
