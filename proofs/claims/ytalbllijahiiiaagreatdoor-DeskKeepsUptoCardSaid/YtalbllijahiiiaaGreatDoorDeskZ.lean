/- The desk, texts Desk44 Desk45 Desk46 Desk47 Desk48 Desk49 Desk50 Desk51 Desk52 in one. -/
import Derived.Test.YtalbllijahiiiaaGreatDoorDesk43
import Derived.Test.YtalbllijahiiiaaGreatDoorMapF
import Derived.StillTailTactics
import Derived.Deep.QuietTactic
import Derived.BigQuiet
import Derived.Test.YtalbllijahiiiaaGreatDoorCards
import Derived.Test.YtalbllijahiiiaaGreatDoorTie
import Derived.OpenShut
import Derived.ProofKit
import Derived.JoinedCond
import Derived.LaidLaws
import Derived.LaidMore
import Derived.Lay
import Derived.MakeChecks
import Derived.Lib.LaidTab
import Derived.Stop.Joined
import Derived.Stop.LaidErr
import Derived.Deep.DeepHandedRow
import Derived.Deep.DeepWitnessRowRef
import Derived.SevenTiedAt
import Derived.Shelf.Vars
import Derived.ChangeMaps5
section
/- Errno.Error; desk.forms: a map of the forms; the recovering closure of a line. -/
namespace Go.Proofs.YtalbllijahiiiaaGreatDoor
open Go.RowKit Go.Mine Go.Mine.Desk Go.Maps

/-- An error's name. -/
def errName (c : Int) : Bytes :=
  if c = 0 then [79, 75] else if c = 1 then [69, 114, 114, 82, 97, 110, 103, 101] else if c = 2 then [69, 114, 114, 78, 111, 110, 101] else if c = 3 then [69, 114, 114, 70, 111, 114, 109]
  else if c = 4 then [69, 114, 114, 70, 117, 108, 108] else if c = 5 then [69, 114, 114, 83, 104, 111, 114, 116] else if c = 6 then [69, 114, 114, 90, 101, 114, 111] else if c = 7 then [69, 114, 114, 83, 121, 110, 116, 97, 120] else [69, 114, 114, 110, 111]
set_option maxRecDepth 100000 in
set_option maxHeartbeats 2000000 in
theorem error_any (c : Int) (w : World) : Calls Tryz.prog 10 #[.int .i64 c] w fun e w' => e = .returned (str (errName c)) ∧ w' = w := by
  go_enter Tryz.func10, Tryz.ntmps10
  by_cases h0 : c = 0
  · subst h0; go_wp2_with fail; go_ret; exact ⟨rfl, rfl⟩
  by_cases h1 : c = 1
  · subst h1; go_wp2_with fail; go_ret; exact ⟨rfl, rfl⟩
  by_cases h2 : c = 2
  · subst h2; go_wp2_with fail; go_ret; exact ⟨rfl, rfl⟩
  by_cases h3 : c = 3
  · subst h3; go_wp2_with fail; go_ret; exact ⟨rfl, rfl⟩
  by_cases h4 : c = 4
  · subst h4; go_wp2_with fail; go_ret; exact ⟨rfl, rfl⟩
  by_cases h5 : c = 5
  · subst h5; go_wp2_with fail; go_ret; exact ⟨rfl, rfl⟩
  by_cases h6 : c = 6
  · subst h6; go_wp2_with fail; go_ret; exact ⟨rfl, rfl⟩
  by_cases h7 : c = 7
  · subst h7; go_wp2_with fail; go_ret; exact ⟨rfl, rfl⟩
  have HE := Lib.hid (show errName c = [69, 114, 114, 110, 111] by unfold errName; rw [if_neg h0, if_neg h1, if_neg h2, if_neg h3, if_neg h4, if_neg h5, if_neg h6, if_neg h7])
  go_wp2_with fail
  go_ret
  rw [HE.out]
  exact ⟨rfl, rfl⟩
def kInt : Bytes := [105, 110, 116]
def kMany : Bytes := [109, 97, 110, 121]
def kLimit : Bytes := [108, 105, 109, 105, 116]
def kCount : Bytes := [99, 111, 117, 110, 116]
def kNth : Bytes := [110, 116, 104]
def kShow : Bytes := [115, 104, 111, 119]
def kLess : Bytes := [108, 101, 115, 115]
def kRun : Bytes := [114, 117, 110]
abbrev formV (k : Int) (f : Nat) : Value := .agg #[.int .i64 k, .func (.func f) #[] #[]]
/-- The forms, by their words. -/
def formsF : Bytes → Option Value :=
  upd (upd (upd (upd (upd (upd (upd (upd (fun _ => none) kInt (formV 2 42)) kMany (formV 3 45)) kLimit (formV 1 46)) kCount (formV 0 47))
    kNth (formV 1 51)) kShow (formV 1 55)) kLess (formV 1 60)) kRun (formV 2 64)
theorem key_str (x : Bytes) (h : x.length ≤ maxLen) : keyOf Tryz.prog 9 (str x) = some (.string x) := by
  have hk : Tryz.prog.underlying 9 = some .string := Tryz.underlying9
  simp [keyOf, hk, mapKey, ByteArray.size, h]
theorem str_inj (x y : Bytes) (h : str x = str y) : x = y := by simpa using h
theorem T70 : Tryz.prog.underlying 70 = some (.map 9 74) := by kernel_rfl
set_option maxRecDepth 100000 in
set_option maxHeartbeats 4000000 in
theorem forms_any (w : World) : Calls Tryz.prog 28 #[] w fun e w' => (∃ b, e = .returned (.map (some b)) ∧ HasMap Tryz.prog 9 (fun x : Bytes => str x) w' b formsF) ∧ Below w.heap.size w w' := by
  have hmm := @run_makeMap Tryz.prog
  have K := string_keyed (P := Tryz.prog) (k := 9) Tryz.underlying9
  have m0 := HasMap.made Tryz.prog 9 (fun x : Bytes => str x) w
  obtain ⟨w1, r1, m1, g1, s1⟩ := m0.store K T70 str_inj (key_str kInt (by decide)) (formV 2 42)
  obtain ⟨w2, r2, m2, g2, s2⟩ := m1.store K T70 str_inj (key_str kMany (by decide)) (formV 3 45)
  obtain ⟨w3, r3, m3, g3, s3⟩ := m2.store K T70 str_inj (key_str kLimit (by decide)) (formV 1 46)
  obtain ⟨w4, r4, m4, g4, s4⟩ := m3.store K T70 str_inj (key_str kCount (by decide)) (formV 0 47)
  obtain ⟨w5, r5, m5, g5, s5⟩ := m4.store K T70 str_inj (key_str kNth (by decide)) (formV 1 51)
  obtain ⟨w6, r6, m6, g6, s6⟩ := m5.store K T70 str_inj (key_str kShow (by decide)) (formV 1 55)
  obtain ⟨w7, r7, m7, g7, s7⟩ := m6.store K T70 str_inj (key_str kLess (by decide)) (formV 1 60)
  obtain ⟨w8, r8, m8, g8, s8⟩ := m7.store K T70 str_inj (key_str kRun (by decide)) (formV 2 64)
  have hb : Below w.heap.size w w8 := by
    have h0 : Below w.heap.size w (w.alloc (.map #[] 0)) := (Below.refl _ _).alloc (Nat.le_refl _) _
    have hz : (w.alloc (.map #[] 0)).heap.size = w.heap.size + 1 := by simp
    exact (((((((h0.grown g1 (by omega) (fun q hq => by cases hq; exact Nat.le_refl _)).grown g2 (by omega) (fun q hq => by cases hq; exact Nat.le_refl _)).grown g3 (by omega) (fun q hq => by cases hq; exact Nat.le_refl _)).grown g4 (by omega) (fun q hq => by cases hq; exact Nat.le_refl _)).grown g5 (by omega) (fun q hq => by cases hq; exact Nat.le_refl _)).grown g6 (by omega) (fun q hq => by cases hq; exact Nat.le_refl _)).grown g7 (by omega) (fun q hq => by cases hq; exact Nat.le_refl _)).grown g8 (by omega) (fun q hq => by cases hq; exact Nat.le_refl _)
  have HM := Lib.hid (And.intro m8 hb)
  clear m0 m1 m2 m3 m4 m5 m6 m7 m8 g1 g2 g3 g4 g5 g6 g7 g8 s1 s2 s3 s4 s5 s6 s7 s8 hb K
  simp only [kInt, kMany, kLimit, kCount, kNth, kShow, kLess, kRun] at r1 r2 r3 r4 r5 r6 r7 r8
  go_enter Tryz.func28, Tryz.ntmps28
  go_wp2_with fail
  go_ret
  exact ⟨⟨_, rfl, HM.out.1⟩, HM.out.2⟩
theorem lcatch_idle (p : Addr) (w : World) :
    CallsD Tryz.prog 27 #[.pointer (some p)] .returning w fun e u' w' => e = .returned (.tuple #[]) ∧ u' = .returning ∧ w' = w := by
  refine callsD_of_wpS Tryz.func27 rfl fun c₀ cs hu => ?_
  apply wpS_seq
  apply wpS_region
  simp [wpOpsS, go_sem, recoverD, hu, Tryz.ntmps27, Exit.thenS]
  rw [show #[.pointer (some p)] ++ ((Array.replicate 16 undef).setIfInBounds 3 (.nilIface : Value)).setIfInBounds 0 .nilIface = #[.pointer (some p), .nilIface, undef, undef, .nilIface, undef, undef, undef, undef, undef, undef, undef, undef, undef, undef, undef, undef] from by kernel_rfl]
  refine wpS_of_wp ?_
  go_wp2_with fail
  cases c₀
  simp_all [bodyPostS, results, Tryz.results27]
set_option maxRecDepth 100000 in
theorem lcatch_panicking (b4 : Nat) (c : Int) (v0 : Value) (older : List PanicEntry) (w : World) (h4 : Blk w b4 9 #[v0]) :
    CallsD Tryz.prog 27 #[.pointer (some ⟨b4, 0, none⟩)] (.panicking (errnoE c false :: older)) w fun e u' w' =>
      e = .returned (.tuple #[]) ∧ u' = .panicking (errnoE c true :: older) ∧ w' = w.setCell ⟨b4, 0, none⟩ (str (errName c)) := by
  have c0 : w.cell? ⟨b4, 0, none⟩ = some v0 := h4.cell 0
  have f0 := h4.froz 0
  have hta := assert_errno c
  have HE := Lib.hid (error_any c w)
  refine callsD_of_wpS Tryz.func27 rfl fun c₀ cs hu => ?_
  apply wpS_seq
  apply wpS_region
  simp [wpOpsS, go_sem, recoverD, hu, Tryz.ntmps27, Exit.thenS]
  rw [show #[.pointer (some ⟨b4, 0, none⟩)] ++ ((Array.replicate 16 undef).setIfInBounds 3 ((.iface 36 (.int .i64 c)) : Value)).setIfInBounds 0 (.iface 36 (.int .i64 c)) = #[.pointer (some ⟨b4, 0, none⟩), (.iface 36 (.int .i64 c)), undef, undef, (.iface 36 (.int .i64 c)), undef, undef, undef, undef, undef, undef, undef, undef, undef, undef, undef, undef] from by kernel_rfl]
  refine wpS_of_wp ?_
  go_wp2_with fail
  refine HE.out.mono ?_
  rintro e w1 ⟨rfl, rfl⟩
  go_wp2_with fail
  cases c₀
  simp_all [bodyPostS, results, Tryz.results27]
end Go.Proofs.YtalbllijahiiiaaGreatDoor
end

section
/- (*desk).line. Printed by genline.py. -/
namespace Go.Proofs.YtalbllijahiiiaaGreatDoor
open Go.RowKit Go.Mine Go.Mine.Desk Go.Maps

def lineOut (st : St) : Except Int (Bytes × St) → Bytes × St
  | .ok p => p
  | .error c => (errName c, st)
/-- What a line does. -/
def wordsR (st : St) : List Bytes → Except Int (Bytes × St)
  | [k] => if k = kCount then countR st else .error 7
  | [k, x] => if k = kLimit then limitR st x else if k = kNth then nthF st x else if k = kShow then showF st x else if k = kLess then lessF st x else .error 7
  | [k, x, y] => if k = kInt then intR st x y else if k = kRun then runF2 st x y else .error 7
  | [k, x, y, z] => if k = kMany then manyR st x y z else .error 7
  | _ => .error 7
def lineR (st : St) (s : Bytes) : Bytes × St := lineOut st (wordsR st (cuts 32 s))
def LinePost (p : Bytes × St) (db : Nat) (w : World) (e : Ending) (w' : World) : Prop :=
  Tch (fun k => k = db) w w' ∧ e = .returned (str p.1) ∧ DeskAt w' db p.2.1 p.2.2
theorem zero74 (w : World) : (zeroValue 74).run Tryz.prog w = .ok (.agg #[.int .i64 0, .nilFunc]) w := by kernel_rfl
theorem cell_strs {l : List Bytes} {w : World} {q : Nat} (h : Blk w q 9 (l.map str).toArray) (j : Nat) (hj : j < l.length) : w.cell? ⟨q, j, none⟩ = some (str (l.getD j [])) := by
  rw [h.cell j]
  simp [hj]
/-- What lies there when the words have been cut and the forms are laid. -/
structure LI (w : World) (B : Nat) (l : List Bytes) (q mb db : Nat) (d : DV) (g : G) (n : Int) (W : World) : Prop where
  below : Below w.heap.size w W
  res : Blk W B 9 #[str []]
  words : Blk W q 9 (l.map str).toArray
  forms : HasMap Tryz.prog 9 (fun x : Bytes => str x) W mb formsF
  desk : DeskIs W db d g n
  globals : Gl W
theorem LI.later {w : World} {B : Nat} {l : List Bytes} {q mb db : Nat} {d : DV} {g : G} {n : Int} {W W' : World} (h : LI w B l q mb db d g n W) (hb : Below W.heap.size W W') : LI w B l q mb db d g n W' :=
  ⟨h.below.trans (hb.mono h.below.size), h.res.below hb, h.words.below hb, h.forms.keep (hb.block mb h.forms.lt), h.desk.on hb, h.globals.on hb⟩
theorem blk_types {w : World} {b b' : Nat} {T T' : TypeId} {cs cs' : Array Value} (h : Blk w b T cs) (h' : Blk w b' T' cs') (hne : T ≠ T') : b ≠ b' := by
  rintro rfl
  have h1 : w.heap[b]? = _ := h
  have h2 : w.heap[b]? = _ := h'
  rw [h1] at h2
  simp only [Option.some.injEq, Obj.cells.injEq] at h2
  exact hne h2.2.1
theorem DeskIs.far {w : World} {db : Nat} {d : DV} {g : G} {n : Int} (h : DeskIs w db d g n) {b : Nat} {cs : Array Value} (hb : Blk w b 9 cs) (i : Nat) (v : Value) : DeskIs (w.setCell ⟨b, i, none⟩ v) db d g n :=
  ⟨h.blk.other b i (blk_types h.blk hb (by decide)) v, h.gen.kept fun x _ _ hs => Below.heap_setCell w ⟨b, i, none⟩ v x (blk_types (show Blk w x 28 _ from hs) hb (by decide)),
    (Below.heap_setCell w ⟨b, i, none⟩ v d.eb (blk_types (show Blk w d.eb 41 _ from h.expr) hb (by decide))).trans h.expr, h.right, h.lim⟩
set_option maxRecDepth 100000 in
set_option maxHeartbeats 4000000 in
theorem line_none (db : Nat) (g : G) (n : Int) (s x0 : Bytes) (args : List Bytes) (hs : s.length ≤ 1100000) (hl : cuts 32 s = x0 :: args) (hF : formsF x0 = none ∨ ∃ nw fk, formsF x0 = some (formV nw fk) ∧ (args.length : Int) ≠ nw ∧ 0 ≤ nw ∧ nw ≤ 3) (w : World) (hg : Gl w) (hd : DeskAt w db g n) :
    Calls Tryz.prog 12 #[.pointer (some ⟨db, 0, none⟩), str s] w (LinePost (errName 7, (g, n)) db w) := by
  have hmf : ∀ (fn : Fn) (first cap : Array Value) (w : World), (Instr.makeFunc fn first cap).run Tryz.prog w = .ok (.func fn first cap) w := fun _ _ _ _ => rfl
  obtain ⟨d, hd⟩ := hd
  obtain ⟨w0, hw0⟩ : ∃ w0, w0 = w.alloc (.cells #[str []] 9) := ⟨_, rfl⟩
  have hb0 : Below w.heap.size w w0 := by rw [hw0]; exact (Below.refl w.heap.size w).alloc (Nat.le_refl _) _
  have k0 : Blk w0 w.heap.size 9 #[str []] := by rw [hw0]; exact Blk.new _ _ _
  have hz0 : w0.heap.size = w.heap.size + 1 := by rw [hw0]; simp
  obtain ⟨B, hB⟩ : ∃ B, w.heap.size = B := ⟨_, rfl⟩
  rw [hB] at k0 hz0
  obtain ⟨q, hq⟩ : ∃ q, q = w0.heap.size := ⟨_, rfl⟩
  obtain ⟨w1, hw1⟩ : ∃ w1, w1 = w0.alloc (.cells ((x0 :: args).map str).toArray 9) := ⟨_, rfl⟩
  have hb1 : Below w0.heap.size w0 w1 := by rw [hw1]; exact (Below.refl _ _).alloc (Nat.le_refl _) _
  have k1 : Blk w1 q 9 ((x0 :: args).map str).toArray := by rw [hw1, hq]; exact Blk.new _ _ _
  have HS := Lib.hid (cutText_any s 32 (by omega) w0 (hg.on hb0))
  rw [hl] at HS
  have HFM := Lib.hid (forms_any w1)
  have H1 := Lib.hid (show Below w.heap.size w w1 ∧ Blk w1 B 9 #[str []] ∧ Blk w1 q 9 ((x0 :: args).map str).toArray ∧ DeskIs w1 db d g n ∧ Gl w1 from
    ⟨hb0.trans (hb1.mono hb0.size), k0.below hb1, k1, (hd.on hb0).on hb1, (hg.on hb0).on hb1⟩)
  have hx0 : x0.length ≤ maxLen := by
    have h := cuts_part 32 s x0 (by rw [hl]; exact List.mem_cons_self)
    unfold maxLen
    omega
  have K := string_keyed (P := Tryz.prog) (k := 9) Tryz.underlying9
  have HLK := Lib.hid (fun (W : World) (mb : Nat) (hm : HasMap Tryz.prog 9 (fun x : Bytes => str x) W mb formsF) => hm.look true K T70 str_inj (zero74 W) (key_str x0 hx0))
  obtain ⟨m, hm⟩ : ∃ m, m = args.length := ⟨_, rfl⟩
  have hml : (x0 :: args).length = m + 1 := by rw [List.length_cons, hm]
  have hmb : m + 1 ≤ 1100001 := by
    have h := cuts_length 32 s
    rw [hl, hml] at h
    omega
  rw [hml, ← hw1, ← hq] at HS
  have HW := Lib.hid (And.intro hw0 (And.intro hq (And.intro hm hB)))
  have hqB : q ≠ B := by omega
  have hdl : db < B := by rw [← hB]; exact hd.blk.lt
  rw [hw0] at HS
  clear hw0 hw1 hb0 hb1 k0 k1 hz0 hg hd hl hx0 K hml hq hm
  go_enter_defers Tryz.func12, Tryz.ntmps12
  go_wp2_with fail
  refine HS.out.mono ?_
  clear HS
  rintro e w1' ⟨rfl, rfl⟩
  go_wp2_with fail
  refine HFM.out.mono ?_
  clear HFM
  rintro e w2 ⟨⟨mb, rfl, hmap⟩, hb2⟩
  have HLI := Lib.hid (show LI w B (x0 :: args) q mb db d g n w2 from ⟨H1.out.1.trans (hb2.mono H1.out.1.size), H1.out.2.1.below hb2, H1.out.2.2.1.below hb2, hmap, H1.out.2.2.2.1.on hb2, H1.out.2.2.2.2.on hb2⟩)
  have hlk := HLK.out w2 mb hmap
  have e0 : w2.cell? ⟨q, 0, none⟩ = some (str x0) := cell_strs HLI.out.words 0 (by simp)
  have r0 : w2.cell? ⟨B, 0, none⟩ = some (str []) := HLI.out.res.cell 0
  have rf0 := HLI.out.res.froz 0
  have hBl : B < w2.heap.size := HLI.out.res.lt
  have hi1 : (0 : Int) < (m : Int) + 1 := by omega
  clear hb2 hmap H1
  rcases hF with hF | ⟨nw, fk, hF, hne, hn0, hn3⟩
  · rw [hF] at hlk
    simp only [Option.getD_none, Option.isSome_none, if_true] at hlk
    have HE := Lib.hid (fun wx => error_any 7 wx)
    go_wp2_with fail
    refine (HE.out _).mono ?_
    rintro e w3 ⟨rfl, hw3⟩
    have hb23 : Below w2.heap.size w2 w3 := by rw [hw3]; exact (Below.refl _ _).alloc (Nat.le_refl _) _
    have HL3 := Lib.hid (HLI.out.later hb23)
    have q0 : w3.cell? ⟨B, 0, none⟩ = some (str []) := HL3.out.res.cell 0
    have qf0 := HL3.out.res.froz 0
    clear hw3 hb23 e0 r0 rf0
    go_wp2_with fail
    refine leaves_cons (f := 27) (args := #[.pointer (some ⟨B, 0, none⟩)]) (by simp) (by simp [go_sem]) ?_
    refine (lcatch_idle _ _).mono ?_
    rintro e u' w'' ⟨rfl, rfl, hw⟩
    have k9 : Blk w'' B 9 #[str (errName 7)] := by rw [hw]; simpa using HL3.out.res.set 0 (str (errName 7))
    have c9 : w''.cell? ⟨B, 0, none⟩ = some (str (errName 7)) := k9.cell 0
    have hB := HW.out.2.2.2
    have HBW := Lib.hid (show Below w.heap.size w w'' by rw [hw]; exact HL3.out.below.setCell (by rw [hB]; exact Nat.le_refl _) _)
    have HD9 := Lib.hid (show DeskAt w'' db g n by rw [hw]; exact (HL3.out.desk.far HL3.out.res 0 _).at)
    clear hw
    simp [Leaves, settle, results, Tryz.results12, go_sem, c9]
    exact ⟨Tch.of_below HBW.out, rfl, HD9.out⟩
  · rw [hF] at hlk
    simp only [Option.getD_some, Option.isSome_some, if_true] at hlk
    have HE := Lib.hid (fun wx => error_any 7 wx)
    rw [← HW.out.2.2.1] at hne
    have hw1 : wrap64 (nw + 1) = nw + 1 := by unfold wrap64; omega
    have hne2 : ¬ (m : Int) + 1 = nw + 1 := by omega
    have hne3 : ¬ (m : Int) = nw := by omega
    go_wp2_with fail
    refine (HE.out _).mono ?_
    rintro e w3 ⟨rfl, hw3⟩
    have hb23 : Below w2.heap.size w2 w3 := by rw [hw3]; exact (Below.refl _ _).alloc (Nat.le_refl _) _
    have HL3 := Lib.hid (HLI.out.later hb23)
    have q0 : w3.cell? ⟨B, 0, none⟩ = some (str []) := HL3.out.res.cell 0
    have qf0 := HL3.out.res.froz 0
    clear hw3 hb23 e0 r0 rf0
    go_wp2_with fail
    refine leaves_cons (f := 27) (args := #[.pointer (some ⟨B, 0, none⟩)]) (by simp) (by simp [go_sem]) ?_
    refine (lcatch_idle _ _).mono ?_
    rintro e u' w'' ⟨rfl, rfl, hw⟩
    have k9 : Blk w'' B 9 #[str (errName 7)] := by rw [hw]; simpa using HL3.out.res.set 0 (str (errName 7))
    have c9 : w''.cell? ⟨B, 0, none⟩ = some (str (errName 7)) := k9.cell 0
    have hB := HW.out.2.2.2
    have HBW := Lib.hid (show Below w.heap.size w w'' by rw [hw]; exact HL3.out.below.setCell (by rw [hB]; exact Nat.le_refl _) _)
    have HD9 := Lib.hid (show DeskAt w'' db g n by rw [hw]; exact (HL3.out.desk.far HL3.out.res 0 _).at)
    clear hw
    simp [Leaves, settle, results, Tryz.results12, go_sem, c9]
    exact ⟨Tch.of_below HBW.out, rfl, HD9.out⟩
set_option maxRecDepth 100000 in
set_option maxHeartbeats 8000000 in
theorem line_core (db : Nat) (g : G) (n : Int) (s x0 : Bytes) (args : List Bytes) (hs : s.length ≤ 1100000) (hl : cuts 32 s = x0 :: args) (nw : Int) (fk : Nat) (hF : formsF x0 = some (formV nw fk)) (hnw : (args.length : Int) = nw) (hn3 : nw ≤ 3)
    (hent : ∀ (a : Array Value) (w : World), Sem.run Tryz.prog (callFunc fk a) w = .ok (.enter fk a) w) (r : Except Int (Bytes × St))
    (hform : ∀ (wx : World) (wo : Option Addr) (wc : Nat), Gl wx → DeskAt wx db g n → StrsAt wx wo args → Calls Tryz.prog fk #[.pointer (some ⟨db, 0, none⟩), .slice wo args.length wc] wx (FormPost (g, n) r db wx)) (w : World) (hg : Gl w) (hd : DeskAt w db g n) :
    Calls Tryz.prog 12 #[.pointer (some ⟨db, 0, none⟩), str s] w (LinePost (lineOut (g, n) r) db w) := by
  have hmf : ∀ (fn : Fn) (first cap : Array Value) (w : World), (Instr.makeFunc fn first cap).run Tryz.prog w = .ok (.func fn first cap) w := fun _ _ _ _ => rfl
  obtain ⟨d, hd⟩ := hd
  obtain ⟨w0, hw0⟩ : ∃ w0, w0 = w.alloc (.cells #[str []] 9) := ⟨_, rfl⟩
  have hb0 : Below w.heap.size w w0 := by rw [hw0]; exact (Below.refl w.heap.size w).alloc (Nat.le_refl _) _
  have k0 : Blk w0 w.heap.size 9 #[str []] := by rw [hw0]; exact Blk.new _ _ _
  have hz0 : w0.heap.size = w.heap.size + 1 := by rw [hw0]; simp
  obtain ⟨B, hB⟩ : ∃ B, w.heap.size = B := ⟨_, rfl⟩
  rw [hB] at k0 hz0
  obtain ⟨q, hq⟩ : ∃ q, q = w0.heap.size := ⟨_, rfl⟩
  obtain ⟨w1, hw1⟩ : ∃ w1, w1 = w0.alloc (.cells ((x0 :: args).map str).toArray 9) := ⟨_, rfl⟩
  have hb1 : Below w0.heap.size w0 w1 := by rw [hw1]; exact (Below.refl _ _).alloc (Nat.le_refl _) _
  have k1 : Blk w1 q 9 ((x0 :: args).map str).toArray := by rw [hw1, hq]; exact Blk.new _ _ _
  have HS := Lib.hid (cutText_any s 32 (by omega) w0 (hg.on hb0))
  rw [hl] at HS
  have HFM := Lib.hid (forms_any w1)
  have H1 := Lib.hid (show Below w.heap.size w w1 ∧ Blk w1 B 9 #[str []] ∧ Blk w1 q 9 ((x0 :: args).map str).toArray ∧ DeskIs w1 db d g n ∧ Gl w1 from
    ⟨hb0.trans (hb1.mono hb0.size), k0.below hb1, k1, (hd.on hb0).on hb1, (hg.on hb0).on hb1⟩)
  have hx0 : x0.length ≤ maxLen := by
    have h := cuts_part 32 s x0 (by rw [hl]; exact List.mem_cons_self)
    unfold maxLen
    omega
  have K := string_keyed (P := Tryz.prog) (k := 9) Tryz.underlying9
  have HLK := Lib.hid (fun (W : World) (mb : Nat) (hm : HasMap Tryz.prog 9 (fun x : Bytes => str x) W mb formsF) => hm.look true K T70 str_inj (zero74 W) (key_str x0 hx0))
  have HFO := Lib.hid hform
  obtain ⟨m, hm⟩ : ∃ m, m = args.length := ⟨_, rfl⟩
  have hml : (x0 :: args).length = m + 1 := by rw [List.length_cons, hm]
  have hmb : m + 1 ≤ 1100001 := by
    have h := cuts_length 32 s
    rw [hl, hml] at h
    omega
  rw [hml, ← hw1, ← hq] at HS
  have HW := Lib.hid (And.intro hw0 (And.intro hq (And.intro hm hB)))
  have hqB : q ≠ B := by omega
  have hdl : db < B := by rw [← hB]; exact hd.blk.lt
  rw [hw0] at HS
  clear hw0 hw1 hb0 hb1 k0 k1 hz0 hg hd hl hx0 K hml hq hm
  go_enter_defers Tryz.func12, Tryz.ntmps12
  go_wp2_with fail
  refine HS.out.mono ?_
  clear HS
  rintro e w1' ⟨rfl, rfl⟩
  go_wp2_with fail
  refine HFM.out.mono ?_
  clear HFM
  rintro e w2 ⟨⟨mb, rfl, hmap⟩, hb2⟩
  have HLI := Lib.hid (show LI w B (x0 :: args) q mb db d g n w2 from ⟨H1.out.1.trans (hb2.mono H1.out.1.size), H1.out.2.1.below hb2, H1.out.2.2.1.below hb2, hmap, H1.out.2.2.2.1.on hb2, H1.out.2.2.2.2.on hb2⟩)
  have hlk := HLK.out w2 mb hmap
  have e0 : w2.cell? ⟨q, 0, none⟩ = some (str x0) := cell_strs HLI.out.words 0 (by simp)
  have r0 : w2.cell? ⟨B, 0, none⟩ = some (str []) := HLI.out.res.cell 0
  have rf0 := HLI.out.res.froz 0
  have hBl : B < w2.heap.size := HLI.out.res.lt
  have hi1 : (0 : Int) < (m : Int) + 1 := by omega
  clear hb2 hmap H1
  rw [hF] at hlk
  simp only [Option.getD_some, Option.isSome_some, if_true] at hlk
  rw [← HW.out.2.2.1] at hnw
  subst hnw
  have hw1 : wrap64 ((m : Int) + 1) = (m : Int) + 1 := by unfold wrap64; omega
  obtain ⟨wo, hwo⟩ : ∃ wo, wo = (if m + 1 = 1 then some (⟨q, 0, none⟩ : Addr) else some ⟨q, 1, none⟩) := ⟨_, rfl⟩
  have hsl : ∀ w, (Instr.slice 23 (.slice (some ⟨q, 0, none⟩) (m + 1) (m + 1)) (some (.int .i64 1)) none none).run Tryz.prog w = .ok (.slice wo m m) w := fun w => by
    have h := run_slice_l (P := Tryz.prog) (w := w) 23 (some ⟨q, 0, none⟩) (m + 1) (m + 1) (by kernel_rfl) .i64 1 (by omega) (by omega)
    rw [h]
    have he : Tryz.prog.elem 23 = 9 := by kernel_rfl
    obtain ⟨i0, hi0, hz0, hz1, hz2⟩ := info_parts infoStr
    rw [he]
    simp [sizeOf, typeInfo, hi0, hz1, Result.andThen, sliced, hwo, go_sem]
  obtain ⟨w3, hw3⟩ : ∃ w3, w3 = w2.alloc (.cells #[.int .i64 (m : Int), .func (.func fk) #[] #[]] 74) := ⟨_, rfl⟩
  obtain ⟨fb, hfb⟩ : ∃ fb, fb = w2.heap.size := ⟨_, rfl⟩
  have hb23 : Below w2.heap.size w2 w3 := by rw [hw3]; exact (Below.refl _ _).alloc (Nat.le_refl _) _
  have kf : Blk w3 fb 74 #[.int .i64 (m : Int), .func (.func fk) #[] #[]] := by rw [hw3, hfb]; exact Blk.new _ _ _
  have HL3 := Lib.hid (HLI.out.later hb23)
  have HKF := Lib.hid (And.intro kf (show db < fb by omega))
  have HB3 := Lib.hid (show Below w3.heap.size w3 w3.drew from (Below.refl _ _).drew)
  have hws : StrsAt w3.drew wo args := fun j hj => by
    have h := cell_strs HL3.out.words (j + 1) (by rw [List.length_cons]; omega)
    refine ⟨q, 1, ?_, ?_⟩
    · rw [hwo, if_neg (by have := HW.out.2.2.1; omega)]
    · rw [Nat.add_comm 1 j]
      exact h
  have HCF := Lib.hid (HFO.out w3.drew wo m (HL3.out.globals.on HB3.out) (HL3.out.desk.on HB3.out).at hws)
  rw [← HW.out.2.2.1] at HCF
  have HW3 := Lib.hid (And.intro hw3 hfb)
  have c1 : w3.cell? ⟨fb, 1, none⟩ = some (.func (.func fk) #[] #[]) := kf.cell 1
  have q0 : w3.cell? ⟨B, 0, none⟩ = some (str []) := HL3.out.res.cell 0
  clear hw3 hfb hb23 kf hws hwo
  go_wp2_with fail
  rw [← HW3.out.1, ← HW3.out.2]
  cases r with
  | ok p =>
    obtain ⟨out, st'⟩ := p
    go_still_tail 5, (by kernel_rfl)
    go_wp2_with fail
    refine HCF.out.mono ?_
    rintro e w9 ⟨ht, hhow⟩
    have hp : e = .returned (str out) ∧ DeskAt w9 db st'.1 st'.2 := by
      rcases hhow with ⟨o', s', h1, h2, h3⟩ | ⟨c', h1, _⟩
      · cases h1
        exact ⟨h2, h3⟩
      · cases h1
    obtain ⟨hp, hd9⟩ := hp
    subst hp
    have hk9 : Blk w9 B 9 #[str []] := (HL3.out.res.drew).touch ht (by omega)
    have H9 := Lib.hid (And.intro ht (And.intro hd9 hk9))
    have k9 : w9.cell? ⟨B, 0, none⟩ = some (str []) := hk9.cell 0
    have kf9 := hk9.froz 0
    clear ht hhow hd9 hk9
    go_wp2_with fail
    refine leaves_cons (f := 27) (args := #[.pointer (some ⟨B, 0, none⟩)]) (by simp) (by simp [go_sem]) ?_
    refine (lcatch_idle _ _).mono ?_
    rintro e u' w'' ⟨rfl, rfl, hw⟩
    have k10 : Blk w'' B 9 #[str out] := by rw [hw]; simpa using H9.out.2.2.set 0 (str out)
    have c11 : w''.cell? ⟨B, 0, none⟩ = some (str out) := k10.cell 0
    have hB0 := HW.out.2.2.2
    have HBW := Lib.hid (show Tch (fun k => k = db) w w'' by rw [hw]; exact ((Tch.of_below (S := fun k => k = db) (HL3.out.below.trans (HB3.out.mono HL3.out.below.size))).trans H9.out.1 (fun _ h => .inl h)).set (.inr (by show w.heap.size ≤ B; omega)) _)
    have HD9 := Lib.hid (show DeskAt w'' db st'.1 st'.2 by rw [hw]; obtain ⟨d9, h9⟩ := H9.out.2.1; exact (h9.far H9.out.2.2 0 _).at)
    clear hw
    simp [Leaves, settle, results, Tryz.results12, go_sem, c11]
    exact ⟨HBW.out, rfl, HD9.out⟩
  | error c =>
    go_still_tail 5, (by kernel_rfl)
    go_wp2_with fail
    refine HCF.out.mono ?_
    rintro e w9 ⟨ht, hhow⟩
    have hp : e = panics c ∧ DeskAt w9 db g n := by
      rcases hhow with ⟨o', s', h1, _⟩ | ⟨c', h1, h2, h3⟩
      · cases h1
      · cases h1
        exact ⟨h2, h3⟩
    obtain ⟨hp, hd9⟩ := hp
    subst hp
    have hk9 : Blk w9 B 9 #[str []] := (HL3.out.res.drew).touch ht (by omega)
    have H9 := Lib.hid (And.intro ht (And.intro hd9 hk9))
    have k9 : w9.cell? ⟨B, 0, none⟩ = some (str []) := hk9.cell 0
    have kf9 := hk9.froz 0
    clear ht hhow hd9 hk9
    go_wp2_with fail
    refine leaves_cons (f := 27) (args := #[.pointer (some ⟨B, 0, none⟩)]) (by simp) (by simp [go_sem]) ?_
    refine (lcatch_panicking B c _ _ _ H9.out.2.2).mono ?_
    rintro e u' w'' ⟨rfl, rfl, hw⟩
    have k10 : Blk w'' B 9 #[str (errName c)] := by rw [hw]; simpa using H9.out.2.2.set 0 (str (errName c))
    have c11 : w''.cell? ⟨B, 0, none⟩ = some (str (errName c)) := k10.cell 0
    have hB0 := HW.out.2.2.2
    have HBW := Lib.hid (show Tch (fun k => k = db) w w'' by rw [hw]; exact ((Tch.of_below (S := fun k => k = db) (HL3.out.below.trans (HB3.out.mono HL3.out.below.size))).trans H9.out.1 (fun _ h => .inl h)).set (.inr (by show w.heap.size ≤ B; omega)) _)
    have HD9 := Lib.hid (show DeskAt w'' db g n by rw [hw]; obtain ⟨d9, h9⟩ := H9.out.2.1; exact (h9.far H9.out.2.2 0 _).at)
    clear hw
    simp [Leaves, settle, results, Tryz.results12, go_sem, c11]
    exact ⟨HBW.out, rfl, HD9.out⟩
end Go.Proofs.YtalbllijahiiiaaGreatDoor
end

section
/- (*desk).line, whole. -/
namespace Go.Proofs.YtalbllijahiiiaaGreatDoor
open Go.RowKit Go.Mine Go.Mine.Desk Go.Maps

theorem f1_enters (a : Array Value) (w : World) : Sem.run Tryz.prog (callFunc 42 a) w = .ok (.enter 42 a) w := by kernel_rfl
theorem f2_enters (a : Array Value) (w : World) : Sem.run Tryz.prog (callFunc 45 a) w = .ok (.enter 45 a) w := by kernel_rfl
theorem f3_enters (a : Array Value) (w : World) : Sem.run Tryz.prog (callFunc 46 a) w = .ok (.enter 46 a) w := by kernel_rfl
theorem f4_enters (a : Array Value) (w : World) : Sem.run Tryz.prog (callFunc 47 a) w = .ok (.enter 47 a) w := by kernel_rfl
theorem f5_enters (a : Array Value) (w : World) : Sem.run Tryz.prog (callFunc 51 a) w = .ok (.enter 51 a) w := by kernel_rfl
theorem f6_enters (a : Array Value) (w : World) : Sem.run Tryz.prog (callFunc 55 a) w = .ok (.enter 55 a) w := by kernel_rfl
theorem f7_enters (a : Array Value) (w : World) : Sem.run Tryz.prog (callFunc 60 a) w = .ok (.enter 60 a) w := by kernel_rfl
theorem f8_enters (a : Array Value) (w : World) : Sem.run Tryz.prog (callFunc 64 a) w = .ok (.enter 64 a) w := by kernel_rfl
theorem fF1 : formsF kInt = some (formV 2 42) := by simp [formsF, upd, kInt, kMany, kLimit, kCount, kNth, kShow, kLess, kRun]
theorem fF2 : formsF kMany = some (formV 3 45) := by simp [formsF, upd, kMany, kLimit, kCount, kNth, kShow, kLess, kRun]
theorem fF3 : formsF kLimit = some (formV 1 46) := by simp [formsF, upd, kLimit, kCount, kNth, kShow, kLess, kRun]
theorem fF4 : formsF kCount = some (formV 0 47) := by simp [formsF, upd, kCount, kNth, kShow, kLess, kRun]
theorem fF5 : formsF kNth = some (formV 1 51) := by simp [formsF, upd, kNth, kShow, kLess, kRun]
theorem fF6 : formsF kShow = some (formV 1 55) := by simp [formsF, upd, kShow, kLess, kRun]
theorem fF7 : formsF kLess = some (formV 1 60) := by simp [formsF, upd, kLess, kRun]
theorem fF8 : formsF kRun = some (formV 2 64) := by simp [formsF, upd, kRun]
/-- Whose words a form's first word is. -/
theorem formsF_any (x : Bytes) : formsF x = none ∨ ∃ nw fk, formsF x = some (formV nw fk) ∧ 0 ≤ nw ∧ nw ≤ 3 ∧ (nw = 0 → x = kCount) ∧ (nw = 1 → x = kLimit ∨ x = kNth ∨ x = kShow ∨ x = kLess) ∧ (nw = 2 → x = kInt ∨ x = kRun) ∧ (nw = 3 → x = kMany) := by
  by_cases h1 : x = kInt
  · subst h1; exact .inr ⟨_, _, fF1, by decide, by decide, by decide, by decide, fun _ => .inl rfl, by decide⟩
  by_cases h2 : x = kMany
  · subst h2; exact .inr ⟨_, _, fF2, by decide, by decide, by decide, by decide, by decide, fun _ => rfl⟩
  by_cases h3 : x = kLimit
  · subst h3; exact .inr ⟨_, _, fF3, by decide, by decide, by decide, fun _ => .inl rfl, by decide, by decide⟩
  by_cases h4 : x = kCount
  · subst h4; exact .inr ⟨_, _, fF4, by decide, by decide, fun _ => rfl, by decide, by decide, by decide⟩
  by_cases h5 : x = kNth
  · subst h5; exact .inr ⟨_, _, fF5, by decide, by decide, by decide, fun _ => .inr (.inl rfl), by decide, by decide⟩
  by_cases h6 : x = kShow
  · subst h6; exact .inr ⟨_, _, fF6, by decide, by decide, by decide, fun _ => .inr (.inr (.inl rfl)), by decide, by decide⟩
  by_cases h7 : x = kLess
  · subst h7; exact .inr ⟨_, _, fF7, by decide, by decide, by decide, fun _ => .inr (.inr (.inr rfl)), by decide, by decide⟩
  by_cases h8 : x = kRun
  · subst h8; exact .inr ⟨_, _, fF8, by decide, by decide, by decide, by decide, fun _ => .inr rfl, by decide⟩
  exact .inl (by simp [formsF, upd, h1, h2, h3, h4, h5, h6, h7, h8])
theorem line_any (db : Nat) (g : G) (n : Int) (s : Bytes) (hs : s.length ≤ 1100000) (w : World) (hg : Gl w) (hd : DeskAt w db g n) :
    Calls Tryz.prog 12 #[.pointer (some ⟨db, 0, none⟩), str s] w (LinePost (lineR (g, n) s) db w) := by
  unfold lineR
  cases hl : cuts 32 s with
  | nil => exact absurd hl (cuts_ne 32 s)
  | cons x0 args =>
    have hx : ∀ x ∈ args, x.length ≤ 1100000 := fun x hx => Nat.le_trans (cuts_part 32 s x (by rw [hl]; exact List.mem_cons_of_mem _ hx)) hs
    have hno : wordsR (g, n) (x0 :: args) = .error 7 → (∀ nw fk, formsF x0 = some (formV nw fk) → (args.length : Int) ≠ nw) → Calls Tryz.prog 12 #[.pointer (some ⟨db, 0, none⟩), str s] w (LinePost (lineOut (g, n) (wordsR (g, n) (x0 :: args))) db w) := by
      intro he hne
      rw [he]
      refine line_none db g n s x0 args hs hl ?_ w hg hd
      rcases formsF_any x0 with h | ⟨nw, fk, h, h0, h3, _⟩
      · exact .inl h
      · exact .inr ⟨nw, fk, h, hne nw fk h, h0, h3⟩
    have hval : ∀ nw fk, formsF x0 = some (formV nw fk) → (nw = 0 → x0 = kCount) ∧ (nw = 1 → x0 = kLimit ∨ x0 = kNth ∨ x0 = kShow ∨ x0 = kLess) ∧ (nw = 2 → x0 = kInt ∨ x0 = kRun) ∧ (nw = 3 → x0 = kMany) ∧ nw ≤ 3 := by
      intro nw fk h
      rcases formsF_any x0 with h' | ⟨nw', fk', h', _, h3', a, b, c, d⟩
      · rw [h] at h'; cases h'
      · rw [h] at h'
        cases h'
        exact ⟨a, b, c, d, h3'⟩
    match args, hl, hx, hno with
    | [], hl, hx, hno =>
      by_cases hk : x0 = kCount
      · subst hk
        exact line_core db g n s kCount [] hs hl 0 _ fF4 rfl (by decide) f4_enters (countR (g, n)) (fun wx wo wc hg' hd' _ => form4_any db g n wo 0 wc wx hg' hd') w hg hd
      · refine hno (by simp [wordsR, hk]) (fun nw fk h e => ?_)
        exact hk ((hval nw fk h).1 (by rw [← e]; rfl))
    | [x], hl, hx, hno =>
      have hx1 := hx x (by simp)
      by_cases hk1 : x0 = kLimit
      · subst hk1
        exact line_core db g n s kLimit [x] hs hl 1 _ fF3 rfl (by decide) f3_enters (limitR (g, n) x) (fun wx wo wc hg' hd' hw' => form3_any db g n wo wc x hx1 wx hg' hd' hw') w hg hd
      by_cases hk2 : x0 = kNth
      · subst hk2
        exact line_core db g n s kNth [x] hs hl 1 _ fF5 rfl (by decide) f5_enters (nthF (g, n) x) (fun wx wo wc hg' hd' hw' => form5_any db g n wo wc x hx1 wx hg' hd' hw') w hg hd
      by_cases hk3 : x0 = kShow
      · subst hk3
        exact line_core db g n s kShow [x] hs hl 1 _ fF6 rfl (by decide) f6_enters (showF (g, n) x) (fun wx wo wc hg' hd' hw' => form6_any db g n wo wc x hx1 wx hg' hd' hw') w hg hd
      by_cases hk4 : x0 = kLess
      · subst hk4
        exact line_core db g n s kLess [x] hs hl 1 _ fF7 rfl (by decide) f7_enters (lessF (g, n) x) (fun wx wo wc hg' hd' hw' => form7_any db g n wo wc x hx1 wx hg' hd' hw') w hg hd
      · refine hno (by simp [wordsR, hk1, hk2, hk3, hk4]) (fun nw fk h e => ?_)
        rcases (hval nw fk h).2.1 (by rw [← e]; rfl) with h | h | h | h
        · exact hk1 h
        · exact hk2 h
        · exact hk3 h
        · exact hk4 h
    | [x, y], hl, hx, hno =>
      have hx1 := hx x (by simp)
      have hx2 := hx y (by simp)
      by_cases hk1 : x0 = kInt
      · subst hk1
        exact line_core db g n s kInt [x, y] hs hl 2 _ fF1 rfl (by decide) f1_enters (intR (g, n) x y) (fun wx wo wc hg' hd' hw' => form1_any db g n wo wc x y hx1 hx2 wx hg' hd' hw') w hg hd
      by_cases hk2 : x0 = kRun
      · subst hk2
        exact line_core db g n s kRun [x, y] hs hl 2 _ fF8 rfl (by decide) f8_enters (runF2 (g, n) x y) (fun wx wo wc hg' hd' hw' => form8_any db g n wo wc x y hx1 hx2 wx hg' hd' hw') w hg hd
      · refine hno (by simp [wordsR, hk1, hk2]) (fun nw fk h e => ?_)
        rcases (hval nw fk h).2.2.1 (by rw [← e]; rfl) with h | h
        · exact hk1 h
        · exact hk2 h
    | [x, y, z], hl, hx, hno =>
      have hx1 := hx x (by simp)
      have hx2 := hx y (by simp)
      have hx3 := hx z (by simp)
      by_cases hk1 : x0 = kMany
      · subst hk1
        exact line_core db g n s kMany [x, y, z] hs hl 3 _ fF2 rfl (by decide) f2_enters (manyR (g, n) x y z) (fun wx wo wc hg' hd' hw' => form2_any db g n wo wc x y z hx1 hx2 hx3 wx hg' hd' hw') w hg hd
      · refine hno (by simp [wordsR, hk1]) (fun nw fk h e => ?_)
        exact hk1 ((hval nw fk h).2.2.2.1 (by rw [← e]; rfl))
    | x :: y :: z :: u :: r, hl, hx, hno =>
      refine hno (by simp [wordsR]) (fun nw fk h e => ?_)
      have h3 := (hval nw fk h).2.2.2.2
      rw [← e] at h3
      simp only [List.length_cons] at h3
      omega
end Go.Proofs.YtalbllijahiiiaaGreatDoor
end

section
/- desk.Run. -/
namespace Go.Proofs.YtalbllijahiiiaaGreatDoor
open Go.RowKit Go.Mine Go.Mine.Desk Go.Maps

/-- A script's lines. -/
def linesOf (s : Bytes) : List Bytes := if (cuts 10 s).getLast (cuts_ne 10 s) = [] then (cuts 10 s).dropLast else cuts 10 s
def answers : St → List Bytes → List Bytes
  | _, [] => []
  | st, l :: r => (lineR st l).1 :: answers (lineR st l).2 r
def endSt : St → List Bytes → St
  | st, [] => st
  | st, l :: r => endSt (lineR st l).2 r
def st0 : St := (.int 0 9, 5)
def runV (s : Bytes) : List Bytes := if 100 < (linesOf s).length then [errName 4] else answers st0 (linesOf s)
theorem answers_len : ∀ (st : St) (l : List Bytes), (answers st l).length = l.length
  | _, [] => rfl
  | st, l :: r => by rw [answers, List.length_cons, answers_len _ r, List.length_cons]
theorem answers_append : ∀ (st : St) (a b : List Bytes), answers st (a ++ b) = answers st a ++ answers (endSt st a) b
  | _, [], _ => rfl
  | st, x :: a, b => by
    rw [List.cons_append, answers, answers, answers_append _ a b]
    rfl
theorem linesOf_len (s : Bytes) : (linesOf s).length ≤ (cuts 10 s).length := by
  unfold linesOf
  split
  · rw [List.length_dropLast]; omega
  · omega
theorem linesOf_part (s : Bytes) : ∀ p ∈ linesOf s, p.length ≤ s.length := fun p hp => by
  refine cuts_part 10 s p ?_
  unfold linesOf at hp
  split at hp
  · exact List.dropLast_subset _ hp
  · exact hp
theorem linesOf_get (s : Bytes) (j : Nat) (hj : j < (linesOf s).length) : (cuts 10 s).getD j [] = (linesOf s).getD j [] := by
  have h := linesOf_len s
  unfold linesOf at hj ⊢
  split
  · rename_i hl
    rw [if_pos hl, List.length_dropLast] at hj
    simp [show j < (cuts 10 s).length - 1 by omega, show j < (cuts 10 s).length by omega]
  · rfl
/-- What a string's row owns lies in no block of another kind. -/
theorem owns_kind {w : World} {base n : Nat} {v : Value} {xs : List Value} (h : w.ownsRow base 9 1 v n xs) {b : Nat} {T : TypeId} {cs : Array Value} (hb : Blk w b T cs) (hne : T ≠ 9) : some b ≠ v.ownBlock := by
  rcases h.2 with ⟨rfl, _⟩ | ⟨g', cap, cur, rfl, _, hc, _⟩
  · simp [Value.ownBlock]
  · intro e
    simp only [Value.ownBlock, Option.some.injEq] at e
    exact blk_types hb (show Blk w g' 9 cur from hc) hne e
theorem owns_touch {w w' : World} {base db n : Nat} {v : Value} {xs : List Value} (h : w.ownsRow base 9 1 v n xs) (hd : db < base) (ht : Tch (fun k => k = db) w w') : w'.ownsRow base 9 1 v n xs :=
  owns_block h fun g hg hv => ht.block g (h.lt g hv).2 (by omega)
theorem DeskIs.push {w w' : World} {db : Nat} {d : DV} {g : G} {n : Int} (h : DeskIs w db d g n) {base m : Nat} {v : Value} {xs : List Value} (ho : w.ownsRow base 9 1 v m xs) (hg : w.grownBy w' v.ownBlock) : DeskIs w' db d g n :=
  ⟨(hg.block db h.blk.lt (owns_kind ho h.blk (by decide))).trans h.blk,
    h.gen.kept fun x _ _ hs => hg.block x hs.lt (owns_kind ho (show Blk w x 28 _ from hs) (by decide)),
    (hg.block d.eb (show Blk w d.eb 41 _ from h.expr).lt (owns_kind ho (show Blk w d.eb 41 _ from h.expr) (by decide))).trans h.expr, h.right, h.lim⟩
/-- What lies there when k lines are answered. -/
structure RD (w : World) (s : Bytes) (q db k : Nat) (ov : Value) (W : World) : Prop where
  below : Below w.heap.size w W
  row : Blk W q 9 ((cuts 10 s).map str).toArray
  desk : DeskAt W db (endSt st0 ((linesOf s).take k)).1 (endSt st0 ((linesOf s).take k)).2
  own : W.ownsRow (db + 1) 9 1 ov k ((answers st0 ((linesOf s).take k)).map str)
theorem endSt_append : ∀ (st : St) (a b : List Bytes), endSt st (a ++ b) = endSt (endSt st a) b
  | _, [], _ => rfl
  | st, x :: a, b => by rw [List.cons_append, endSt, endSt_append _ a b, endSt]
theorem RD.touch {w : World} {s : Bytes} {q db k : Nat} {ov : Value} {W W' : World} (h : RD w s q db k ov W) (hq : q < db) (hdw : w.heap.size ≤ db) (ht : Tch (fun x => x = db) W W') : Below w.heap.size w W' ∧ Blk W' q 9 ((cuts 10 s).map str).toArray ∧ W'.ownsRow (db + 1) 9 1 ov k ((answers st0 ((linesOf s).take k)).map str) :=
  ⟨h.below.trans (ht.below h.below.size fun x hx => by omega), h.row.touch ht (by omega), owns_touch h.own (by omega) ht⟩
theorem RD.next {w : World} {s p : Bytes} {q db k g cap : Nat} {ov : Value} {W W' : World} (hk : (linesOf s)[k]? = some p) (hb : Below w.heap.size w W) (hrow : Blk W q 9 ((cuts 10 s).map str).toArray) (hq : q < db)
    (hd : DeskAt W db (lineR (endSt st0 ((linesOf s).take k)) p).2.1 (lineR (endSt st0 ((linesOf s).take k)) p).2.2) (ho : W.ownsRow (db + 1) 9 1 ov k ((answers st0 ((linesOf s).take k)).map str)) (hg : W.grownBy W' ov.ownBlock) (hdw : w.heap.size ≤ db)
    (hown : W'.ownsRow (db + 1) 9 1 (.slice (some ⟨g, 0, none⟩) (k + 1) cap) (k + 1) (((answers st0 ((linesOf s).take k)).map str) ++ [str (lineR (endSt st0 ((linesOf s).take k)) p).1])) : RD w s q db (k + 1) (.slice (some ⟨g, 0, none⟩) (k + 1) cap) W' := by
  have e : (linesOf s).take (k + 1) = (linesOf s).take k ++ [p] := by rw [List.take_add_one, hk]; rfl
  obtain ⟨d, hd⟩ := hd
  refine ⟨hb.grown hg hb.size (fun x hx => by have := (ho.lt x hx).1; omega), (hg.block q hrow.lt (fun e => by have := (ho.lt q e.symm).1; omega)).trans hrow, ?_, ?_⟩
  · rw [e, endSt_append]
    exact (hd.push ho hg).at
  · rw [e, answers_append, List.map_append]
    exact hown
set_option maxRecDepth 100000 in
set_option maxHeartbeats 8000000 in
theorem drun_script (s : Bytes) (hs : s.length ≤ 1100000) (w : World) (hg : Gl w) :
    Calls Tryz.prog 6 #[str s] w fun e w' => (∃ u, e = .returned u ∧ w'.ownsRow w.heap.size 9 1 u (runV s).length ((runV s).map str)) ∧ Below w.heap.size w w' := by
  obtain ⟨i0, hi0, hz0, hz1, hz2⟩ := info_parts infoStr
  obtain ⟨m, hm⟩ : ∃ m, m = (cuts 10 s).length := ⟨_, rfl⟩
  have hm1 : 1 ≤ m := by rw [hm]; exact List.length_pos_iff.2 (cuts_ne 10 s)
  have hm2 : m ≤ 1100001 := by have := cuts_length 10 s; omega
  obtain ⟨q, hq⟩ : ∃ q, q = w.heap.size := ⟨_, rfl⟩
  obtain ⟨w1, hw1⟩ : ∃ w1, w1 = w.alloc (.cells ((cuts 10 s).map str).toArray 9) := ⟨_, rfl⟩
  have hb1 : Below w.heap.size w w1 := by rw [hw1]; exact (Below.refl _ _).alloc (Nat.le_refl _) _
  have k1 : Blk w1 q 9 ((cuts 10 s).map str).toArray := by rw [hw1, hq]; exact Blk.new _ _ _
  have HS := Lib.hid (cutText_any s 10 (by omega) w hg)
  rw [← hm, ← hw1, ← hq] at HS
  obtain ⟨la, hla⟩ : ∃ la, la = (cuts 10 s).getLast (cuts_ne 10 s) := ⟨_, rfl⟩
  have clast : w1.cell? ⟨q, m - 1, none⟩ = some (str la) := by
    rw [cell_strs k1 (m - 1) (by omega), hla, List.getLast_eq_getElem]
    simp [hm, show (cuts 10 s).length - 1 < (cuts 10 s).length by omega]
  have H1 := Lib.hid (And.intro hb1 (And.intro k1 (And.intro hg (And.intro hm (And.intro hla hq)))))
  have hmi : IntKind.i64.wrap ((m : Int) - 1) = ((m - 1 : Nat) : Int) := by rw [IntWalk.i64_in _ (by omega)]; omega
  have hmw : wrap64 ((m : Int) - 1) = ((m - 1 : Nat) : Int) := by unfold wrap64; omega
  have hmi1 : ((m - 1 : Nat) : Int) < (m : Int) := by omega
  have hmi0 : (0 : Int) ≤ ((m - 1 : Nat) : Int) := by omega
  clear hw1 hb1 k1 hg hm hla hq
  go_enter Tryz.func6, Tryz.ntmps6
  go_wp2_with fail
  refine HS.out.mono ?_
  clear HS
  rintro e w1' ⟨rfl, rfl⟩
  by_cases hle : la = []
  · subst hle
    obtain ⟨L, hLm⟩ : ∃ L, L = m - 1 := ⟨_, rfl⟩
    rw [← hLm] at hmi hmw hmi1 hmi0 clast
    have HLm := Lib.hid (show L = m - 1 from hLm)
    have HL := Lib.hid (show L = (linesOf s).length by rw [hLm]; unfold linesOf; rw [if_pos H1.out.2.2.2.2.1.symm, List.length_dropLast, H1.out.2.2.2.1])
    have hL2 : L ≤ 1100001 := by omega
    clear hLm
    by_cases h100 : 100 < L
    · have d : decide (100 < ((L : Nat) : Int)) = true := decide_eq_true (by omega)
      have HR := Lib.hid (show runV s = [errName 4] by unfold runV; rw [if_pos (by rw [← HL.out]; exact h100)])
      go_wp2_with fail
      refine (error_any 4 _).mono ?_
      rintro e w2 ⟨rfl, rfl⟩
      go_wp2_with fail
      go_ret
      rw [HR.out]
      exact ⟨⟨_, rfl, (World.ownsRow_lit w2 #[str (errName 4)] 1 H1.out.1.size (by unfold maxLen; omega) rfl)⟩, H1.out.1.alloc H1.out.1.size _⟩
    · have d : decide (100 < ((L : Nat) : Int)) = false := decide_eq_false (by omega)
      have HR := Lib.hid (show runV s = answers st0 (linesOf s) by unfold runV; rw [if_neg (by rw [← HL.out]; exact h100)])
      go_wp2_with fail
      refine (limit_any 5 _).mono ?_
      rintro e w2 ⟨⟨eb, rfl, heb, hexp⟩, hb2⟩
      have H2 := Lib.hid (And.intro heb (And.intro hexp hb2))
      clear heb hexp hb2
      simp only [wholeE]
      go_wp2_with fail
      obtain ⟨db, hdb⟩ : ∃ db, db = w2.heap.size := ⟨_, rfl⟩
      obtain ⟨w3, hw3⟩ : ∃ w3, w3 = w2.alloc (.cells #[.int .i64 2, .int .i64 0, .int .i64 9, .slice none 0 0, .int .i64 7, .int .i64 0, .slice (some ⟨eb, 0, none⟩) 2 2] 44) := ⟨_, rfl⟩
      have hb3 : Below w2.heap.size w2 w3 := by rw [hw3]; exact (Below.refl _ _).alloc (Nat.le_refl _) _
      have kd : Blk w3 db 44 (DV.cells ⟨2, 0, 9, none, 0, 0, eb⟩) := by rw [hw3, hdb]; exact Blk.new _ _ _
      have hz2 : w.heap.size ≤ w2.heap.size := Nat.le_trans H1.out.1.size H2.out.2.2.size
      have hq2 : q < w2.heap.size := (H1.out.2.1.below H2.out.2.2).lt
      have HI0 := Lib.hid (show RD w s q db 0 (.slice none 0 0) w3 from
        ⟨H1.out.1.trans ((H2.out.2.2.trans (hb3.mono H2.out.2.2.size)).mono H1.out.1.size), (H1.out.2.1.below H2.out.2.2).below hb3,
          ⟨⟨2, 0, 9, none, 0, 0, eb⟩, kd, rfl, (show Blk w2 eb _ _ from H2.out.2.1).below hb3, show (G.int 0 9).right by decide, show near 5 by unfold near; omega⟩, World.ownsRow_nil _ _ _ _⟩)
      have hqd : q < db := by omega
      have hwd : w.heap.size ≤ db := by omega
      rw [← hdb, ← hw3]
      clear hw3 hdb hb3 kd hz2 hq2
      go_loopg [5, 33] L (fun gq ov iv wr => ∃ k : Nat, iv = .int .i64 (k : Int) ∧ k + gq = L ∧ RowKit.Hid (RD w s q db k ov wr))
      case atStart => exact ⟨0, rfl, by omega, HI0⟩
      case round =>
        obtain ⟨k, rfl, hkg, HK⟩ := hrel
        rcases Nat.eq_zero_or_pos gk with hz | hz
        · have hkm : k = L := by omega
          subst k
          have dr : decide (((L : Nat) : Int) < ((L : Nat) : Int)) = false := decide_eq_false (by omega)
          go_wp2_with fail
          go_ret
          have hO := HK.out.own
          rw [HL.out, List.take_of_length_le (Nat.le_refl _)] at hO
          rw [HR.out, answers_len]
          exact ⟨⟨_, rfl, hO.mono (by omega)⟩, HK.out.below⟩
        · have hkl : k < L := by omega
          have dr : decide ((k : Int) < ((L : Nat) : Int)) = true := decide_eq_true (by omega)
          have hi0' : (0 : Int) ≤ (k : Int) := by omega
          have hi1 : (k : Int) < ((L : Nat) : Int) := by omega
          have hw1 : IntKind.i64.wrap ((k : Int) + 1) = ((k + 1 : Nat) : Int) := by rw [IntWalk.i64_in _ (by omega)]; omega
          obtain ⟨p, hp⟩ : ∃ p, p = (linesOf s).getD k [] := ⟨_, rfl⟩
          have hpe : (linesOf s)[k]? = some p := by rw [hp]; simp [show k < (linesOf s).length by rw [← HL.out]; exact hkl]
          have c0 : wr.cell? ⟨q, k, none⟩ = some (str p) := by rw [cell_strs HK.out.row k (by have := linesOf_len s; rw [← HL.out] at this; omega), linesOf_get s k (by rw [← HL.out]; exact hkl), ← hp]
          have HLN := Lib.hid (line_any db _ _ p (Nat.le_trans (linesOf_part s p (List.mem_of_getElem? hpe)) hs) wr (H1.out.2.2.1.on HK.out.below) HK.out.desk)
          have HPE := Lib.hid hpe
          clear hp hpe
          go_wp2_with fail
          refine HLN.out.mono ?_
          clear HLN
          rintro e w5 ⟨ht5, rfl, hd5⟩
          obtain ⟨hb5, hr5, ho5⟩ := HK.out.touch hqd hwd ht5
          have H5 := Lib.hid (And.intro hb5 (And.intro hr5 (And.intro hd5 ho5)))
          have hsz5 : db + 1 ≤ w5.heap.size := by
            obtain ⟨d5, hd5⟩ := hd5
            exact hd5.blk.lt
          clear ht5 hb5 hr5 hd5 ho5 c0
          obtain ⟨pr, hpr⟩ : ∃ pr, pr = lineR (endSt st0 ((linesOf s).take k)) p := ⟨_, rfl⟩
          rw [show ((endSt st0 (List.take k (linesOf s))).fst, (endSt st0 (List.take k (linesOf s))).snd) = endSt st0 (List.take k (linesOf s)) from rfl] at H5 ⊢
          rw [← hpr] at H5 ⊢
          have HPR := Lib.hid hpr
          clear hpr
          obtain ⟨out, st1⟩ := pr
          have HO := Lib.hid H5.out.2.2.2
          go_wp2_with (at_builtin; refine wpList_push2 _ rfl _ _ 23 rfl (db + 1) 9 i0 (.string ⟨#[]⟩) 1 16 Tryz.underlying23 hi0 hz0 hz1 hz2 rfl (by decide) _ _ _ rfl (HO.out.alloc _) ⟨w5.heap.size, 0, none⟩ 1 [str out] rfl rfl (World.news_of_block (cs := #[str out]) (t := 9) (fr := (0, 0)) (heap_alloc_at _ _ rfl)) (str1 _) (by unfold maxLen; omega) (by omega) (by simp; omega) ?_)
          intro g cap w7 hown hgr hat7
          have hb5 : Below w5.heap.size w5 (w5.alloc (.cells #[str out] 9)) := (Below.refl _ _).alloc (Nat.le_refl _) _
          have HK2 := Lib.hid (show RD w s q db (k + 1) (.slice (some ⟨g, 0, none⟩) (k + 1) cap) w7 from by
            obtain ⟨d5, hd5⟩ := H5.out.2.2.1
            exact RD.next HPE.out (H5.out.1.trans (hb5.mono H5.out.1.size)) (H5.out.2.1.below hb5) hqd (by rw [← HPR.out]; exact (hd5.on hb5).at) (HO.out.alloc _) hgr hwd (by rw [← HPR.out]; exact hown))
          clear hown hgr hat7 hb5
          go_wp2_with fail
          go_roundg (gk - 1)
          case rel => exact ⟨k + 1, by go_num, by omega, HK2⟩
          case measure => omega
  · have hem : List.isEmpty la = false := by cases la with | nil => exact absurd rfl hle | cons _ _ => rfl
    have HL := Lib.hid (show m = (linesOf s).length by unfold linesOf; rw [if_neg (by rw [← H1.out.2.2.2.2.1]; exact hle), H1.out.2.2.2.1])
    by_cases h100 : 100 < m
    · have d : decide (100 < ((m : Nat) : Int)) = true := decide_eq_true (by omega)
      have HR := Lib.hid (show runV s = [errName 4] by unfold runV; rw [if_pos (by rw [← HL.out]; exact h100)])
      go_wp2_with fail
      refine (error_any 4 _).mono ?_
      rintro e w2 ⟨rfl, rfl⟩
      go_wp2_with fail
      go_ret
      rw [HR.out]
      exact ⟨⟨_, rfl, (World.ownsRow_lit w2 #[str (errName 4)] 1 H1.out.1.size (by unfold maxLen; omega) rfl)⟩, H1.out.1.alloc H1.out.1.size _⟩
    · have d : decide (100 < ((m : Nat) : Int)) = false := decide_eq_false (by omega)
      have HR := Lib.hid (show runV s = answers st0 (linesOf s) by unfold runV; rw [if_neg (by rw [← HL.out]; exact h100)])
      go_wp2_with fail
      refine (limit_any 5 _).mono ?_
      rintro e w2 ⟨⟨eb, rfl, heb, hexp⟩, hb2⟩
      have H2 := Lib.hid (And.intro heb (And.intro hexp hb2))
      clear heb hexp hb2
      simp only [wholeE]
      go_wp2_with fail
      obtain ⟨db, hdb⟩ : ∃ db, db = w2.heap.size := ⟨_, rfl⟩
      obtain ⟨w3, hw3⟩ : ∃ w3, w3 = w2.alloc (.cells #[.int .i64 2, .int .i64 0, .int .i64 9, .slice none 0 0, .int .i64 7, .int .i64 0, .slice (some ⟨eb, 0, none⟩) 2 2] 44) := ⟨_, rfl⟩
      have hb3 : Below w2.heap.size w2 w3 := by rw [hw3]; exact (Below.refl _ _).alloc (Nat.le_refl _) _
      have kd : Blk w3 db 44 (DV.cells ⟨2, 0, 9, none, 0, 0, eb⟩) := by rw [hw3, hdb]; exact Blk.new _ _ _
      have hz2 : w.heap.size ≤ w2.heap.size := Nat.le_trans H1.out.1.size H2.out.2.2.size
      have hq2 : q < w2.heap.size := (H1.out.2.1.below H2.out.2.2).lt
      have HI0 := Lib.hid (show RD w s q db 0 (.slice none 0 0) w3 from
        ⟨H1.out.1.trans ((H2.out.2.2.trans (hb3.mono H2.out.2.2.size)).mono H1.out.1.size), (H1.out.2.1.below H2.out.2.2).below hb3,
          ⟨⟨2, 0, 9, none, 0, 0, eb⟩, kd, rfl, (show Blk w2 eb _ _ from H2.out.2.1).below hb3, show (G.int 0 9).right by decide, show near 5 by unfold near; omega⟩, World.ownsRow_nil _ _ _ _⟩)
      have hqd : q < db := by omega
      have hwd : w.heap.size ≤ db := by omega
      rw [← hdb, ← hw3]
      clear hw3 hdb hb3 kd hz2 hq2
      go_loopg [5, 33] m (fun gq ov iv wr => ∃ k : Nat, iv = .int .i64 (k : Int) ∧ k + gq = m ∧ RowKit.Hid (RD w s q db k ov wr))
      case atStart => exact ⟨0, rfl, by omega, HI0⟩
      case round =>
        obtain ⟨k, rfl, hkg, HK⟩ := hrel
        rcases Nat.eq_zero_or_pos gk with hz | hz
        · have hkm : k = m := by omega
          subst k
          have dr : decide (((m : Nat) : Int) < ((m : Nat) : Int)) = false := decide_eq_false (by omega)
          go_wp2_with fail
          go_ret
          have hO := HK.out.own
          rw [HL.out, List.take_of_length_le (Nat.le_refl _)] at hO
          rw [HR.out, answers_len]
          exact ⟨⟨_, rfl, hO.mono (by omega)⟩, HK.out.below⟩
        · have hkl : k < m := by omega
          have dr : decide ((k : Int) < ((m : Nat) : Int)) = true := decide_eq_true (by omega)
          have hi0' : (0 : Int) ≤ (k : Int) := by omega
          have hi1 : (k : Int) < ((m : Nat) : Int) := by omega
          have hw1 : IntKind.i64.wrap ((k : Int) + 1) = ((k + 1 : Nat) : Int) := by rw [IntWalk.i64_in _ (by omega)]; omega
          obtain ⟨p, hp⟩ : ∃ p, p = (linesOf s).getD k [] := ⟨_, rfl⟩
          have hpe : (linesOf s)[k]? = some p := by rw [hp]; simp [show k < (linesOf s).length by rw [← HL.out]; exact hkl]
          have c0 : wr.cell? ⟨q, k, none⟩ = some (str p) := by rw [cell_strs HK.out.row k (by have := linesOf_len s; rw [← HL.out] at this; omega), linesOf_get s k (by rw [← HL.out]; exact hkl), ← hp]
          have HLN := Lib.hid (line_any db _ _ p (Nat.le_trans (linesOf_part s p (List.mem_of_getElem? hpe)) hs) wr (H1.out.2.2.1.on HK.out.below) HK.out.desk)
          have HPE := Lib.hid hpe
          clear hp hpe
          go_wp2_with fail
          refine HLN.out.mono ?_
          clear HLN
          rintro e w5 ⟨ht5, rfl, hd5⟩
          obtain ⟨hb5, hr5, ho5⟩ := HK.out.touch hqd hwd ht5
          have H5 := Lib.hid (And.intro hb5 (And.intro hr5 (And.intro hd5 ho5)))
          have hsz5 : db + 1 ≤ w5.heap.size := by
            obtain ⟨d5, hd5⟩ := hd5
            exact hd5.blk.lt
          clear ht5 hb5 hr5 hd5 ho5 c0
          obtain ⟨pr, hpr⟩ : ∃ pr, pr = lineR (endSt st0 ((linesOf s).take k)) p := ⟨_, rfl⟩
          rw [show ((endSt st0 (List.take k (linesOf s))).fst, (endSt st0 (List.take k (linesOf s))).snd) = endSt st0 (List.take k (linesOf s)) from rfl] at H5 ⊢
          rw [← hpr] at H5 ⊢
          have HPR := Lib.hid hpr
          clear hpr
          obtain ⟨out, st1⟩ := pr
          have HO := Lib.hid H5.out.2.2.2
          go_wp2_with (at_builtin; refine wpList_push2 _ rfl _ _ 23 rfl (db + 1) 9 i0 (.string ⟨#[]⟩) 1 16 Tryz.underlying23 hi0 hz0 hz1 hz2 rfl (by decide) _ _ _ rfl (HO.out.alloc _) ⟨w5.heap.size, 0, none⟩ 1 [str out] rfl rfl (World.news_of_block (cs := #[str out]) (t := 9) (fr := (0, 0)) (heap_alloc_at _ _ rfl)) (str1 _) (by unfold maxLen; omega) (by omega) (by simp; omega) ?_)
          intro g cap w7 hown hgr hat7
          have hb5 : Below w5.heap.size w5 (w5.alloc (.cells #[str out] 9)) := (Below.refl _ _).alloc (Nat.le_refl _) _
          have HK2 := Lib.hid (show RD w s q db (k + 1) (.slice (some ⟨g, 0, none⟩) (k + 1) cap) w7 from by
            obtain ⟨d5, hd5⟩ := H5.out.2.2.1
            exact RD.next HPE.out (H5.out.1.trans (hb5.mono H5.out.1.size)) (H5.out.2.1.below hb5) hqd (by rw [← HPR.out]; exact (hd5.on hb5).at) (HO.out.alloc _) hgr hwd (by rw [← HPR.out]; exact hown))
          clear hown hgr hat7 hb5
          go_wp2_with fail
          go_roundg (gk - 1)
          case rel => exact ⟨k + 1, by go_num, by omega, HK2⟩
          case measure => omega
end Go.Proofs.YtalbllijahiiiaaGreatDoor
end

section
/- assayersame.Texts: are two lists of texts the same. -/
namespace Go.Proofs.YtalbllijahiiiaaGreatDoor
open Go.RowKit Go.Mine Go.Mine.Desk

theorem take_succ_eqT {xs ys : List Bytes} {k : Nat} (hk : k < xs.length) (hk' : k < ys.length) : xs.take (k + 1) = ys.take (k + 1) ↔ xs.take k = ys.take k ∧ xs.getD k [] = ys.getD k [] := by
  rw [List.take_succ_eq_append_getElem hk, List.take_succ_eq_append_getElem hk']
  have hl : (xs.take k).length = (ys.take k).length := by simp; omega
  constructor
  · intro h
    have := List.append_inj h hl
    simp [hk, hk']
    exact ⟨this.1, by simpa using this.2⟩
  · rintro ⟨h1, h2⟩
    simp [hk, hk'] at h2
    rw [h1, h2]

set_option maxHeartbeats 600000 in
theorem Texts_any (xs ys : List Bytes) (a b : Option Addr) (ca cb : Nat) (w : World) (hx : StrsAt w a xs) (hy : StrsAt w b ys) (hl : xs.length ≤ maxLen) :
    Calls Tryz.prog 5 #[.slice a xs.length ca, .slice b ys.length cb] w fun e w' => e = .returned (.bool (decide (xs = ys))) ∧ ∃ n, w' = w.drewN n := by
  unfold maxLen at hl
  by_cases hne : xs.length = ys.length
  · have HX := Lib.hid hx; clear hx
    have HY := Lib.hid hy; clear hy
    rw [← hne]
    have HNE := Lib.hid hne; clear hne
    go_enter Tryz.func5, Tryz.ntmps5
    go_wp2_with fail
    go_loopw [5] (fun i wr => ∃ k nq : Nat, i = .int .i64 k ∧ k ≤ xs.length ∧ xs.take k = ys.take k ∧ wr = w.drewN nq) (fun i _ => xs.length - (intOf i).toNat)
    case atStart => exact ⟨0, 0, rfl, by omega, by simp, (drewN_zero w).symm⟩
    case round =>
      obtain ⟨k, nq, rfl, hk, ht, rfl⟩ := hrel
      have HT := Lib.hid ht; clear ht
      by_cases hlt : k < xs.length
      · obtain ⟨b1, o1, rfl, hc1⟩ := HX.out k hlt
        obtain ⟨b2, o2, rfl, hc2⟩ := HY.out k (by rw [← HNE.out]; exact hlt)
        have hts := take_succ_eqT (ys := ys) hlt (by rw [← HNE.out]; exact hlt)
        have HTS := Lib.hid hts; clear hts
        obtain ⟨x, hx⟩ : ∃ x, x = xs.getD k [] := ⟨_, rfl⟩
        obtain ⟨y, hy⟩ : ∃ y, y = ys.getD k [] := ⟨_, rfl⟩
        rw [← hx] at hc1 HTS
        rw [← hy] at hc2 HTS
        have HXX := Lib.hid hx; clear hx
        have HYY := Lib.hid hy; clear hy
        by_cases hxy : x = y
        · subst hxy
          have hb : (x != x) = false := by simp
          go_wp2_with fail
          go_quiet (fail)
          go_wp2_with fail
          go_roundw
          case rel => exact ⟨k + 1, _, by go_num, by omega, HTS.out.2 ⟨HT.out, by first | trivial | rfl⟩, rfl⟩
          case measure => simp [intOf]; omega
        · have hb : (x != y) = true := by simpa using hxy
          have hE : decide (xs = ys) = false := by
            rw [decide_eq_false_iff_not]
            intro h
            exact hxy (HTS.out.1 (by rw [h])).2
          have HE := Lib.hid hE; clear hE
          have hde : (!x == y) = true := by simpa using hxy
          go_wp2_with fail
          go_quiet (fail)
          go_wp2_with fail
          go_ret
          exact ⟨by rw [HE.out]; rfl, _, drewN_drewN _ _ _⟩
      · have hE : decide (xs = ys) = true := by
          rw [decide_eq_true_iff]
          have h := HT.out
          rwa [List.take_of_length_le (by omega), List.take_of_length_le (by rw [← HNE.out]; omega)] at h
        have HE := Lib.hid hE; clear hE
        go_wp2_with fail
        go_ret
        exact ⟨by rw [HE.out]; rfl, _, rfl⟩
  · have hE : decide (xs = ys) = false := by
      rw [decide_eq_false_iff_not]
      intro h
      exact hne (by rw [h])
    have HE := Lib.hid hE; clear hE
    have hb : ((xs.length : Int) != (ys.length : Int)) = true := by rw [bne_iff_ne]; omega
    have hb2 : ((xs.length : Int) == (ys.length : Int)) = false := by rw [beq_eq_false_iff_ne]; omega
    have HNE := Lib.hid hne; clear hne
    go_enter Tryz.func5, Tryz.ntmps5
    go_wp2_with fail
    go_ret
    exact ⟨by rw [HE.out]; rfl, 0, (drewN_zero w).symm⟩
end Go.Proofs.YtalbllijahiiiaaGreatDoor
end

section
/- assayerref1.Cut. -/
namespace Go.Proofs.YtalbllijahiiiaaGreatDoor
open Go.RowKit Go.Mine Go.Mine.Desk

/-- A text cut as far as i, the last piece from f. -/
structure CutI (c : UInt8) (s : Bytes) (f i : Nat) (done : List Bytes) : Prop where
  fi : f ≤ i
  le : i ≤ s.length
  eq : done ++ cuts c (s.drop f) = cuts c s
  no : c ∉ (s.drop f).take (i - f)
theorem CutI.zero (c : UInt8) (s : Bytes) : CutI c s 0 0 [] := ⟨Nat.le_refl _, Nat.zero_le _, rfl, by simp⟩
theorem CutI.hit {c : UInt8} {s : Bytes} {f i : Nat} {done : List Bytes} (h : CutI c s f i done) (hi : s[i]? = some c) : CutI c s (i + 1) (i + 1) (done ++ [(s.drop f).take (i - f)]) := by
  obtain ⟨hl, hv⟩ := List.getElem?_eq_some_iff.1 hi
  refine ⟨Nat.le_refl _, hl, ?_, by simp⟩
  have e : s.drop f = (s.drop f).take (i - f) ++ c :: s.drop (i + 1) := by
    conv => lhs; rw [← List.take_append_drop (i - f) (s.drop f), List.drop_drop, show f + (i - f) = i by have := h.fi; omega, List.drop_eq_getElem_cons hl, hv]
  have h2 := h.eq
  rw [e, cuts_append, cuts_none c _ h.no] at h2
  rw [← h2]
  simp
theorem CutI.miss {c x : UInt8} {s : Bytes} {f i : Nat} {done : List Bytes} (h : CutI c s f i done) (hi : s[i]? = some x) (hx : x ≠ c) : CutI c s f (i + 1) done := by
  obtain ⟨hl, hv⟩ := List.getElem?_eq_some_iff.1 hi
  have hf := h.fi
  refine ⟨by omega, hl, h.eq, ?_⟩
  rw [show i + 1 - f = (i - f) + 1 by omega, List.take_add_one, List.mem_append]
  rintro (h1 | h1)
  · exact h.no h1
  · rw [List.getElem?_drop, show f + (i - f) = i by omega, hi] at h1
    simp at h1
    exact hx h1.symm
theorem CutI.fin {c : UInt8} {s : Bytes} {f : Nat} {done : List Bytes} (h : CutI c s f s.length done) : done ++ [s.drop f] = cuts c s := by
  have hn := h.no
  rw [List.take_of_length_le (by simp)] at hn
  rw [← h.eq, cuts_none c _ hn]
theorem CutI.few {c : UInt8} {s : Bytes} {f i : Nat} {done : List Bytes} (h : CutI c s f i done) : done.length ≤ s.length := by
  have h1 := congrArg List.length h.eq
  have h2 := cuts_length c s
  have h3 := List.length_pos_iff.2 (cuts_ne c (s.drop f))
  rw [List.length_append] at h1
  omega
theorem from_text (s : Bytes) (f i : Nat) (hf : f ≤ i) (hi : i ≤ s.length) (w : World) : (Instr.slice 9 (str s) (some (.int .i64 (f : Int))) (some (.int .i64 (i : Int))) none).run Tryz.prog w = .ok (str ((s.drop f).take (i - f))) w := by
  rw [run_slice_string (P := Tryz.prog) w 9 ⟨s.toArray⟩ .i64 .i64 (f : Int) (i : Int) (by kernel_rfl) (by omega) (by omega) (by simpa [ByteArray.size] using hi), Go.Lib.extract_eq]
  simp
theorem rest_text (s : Bytes) (k : Nat) (hk : k ≤ s.length) (w : World) : (Instr.slice 9 (str s) (some (.int .i64 (k : Int))) none none).run Tryz.prog w = .ok (str (s.drop k)) w := by
  rw [run_slice_string_l (P := Tryz.prog) w 9 ⟨s.toArray⟩ (by kernel_rfl) .i64 (k : Int) (by omega) (by simp [ByteArray.size]; omega), Go.Lib.extract_eq]
  have e2 : (⟨s.toArray⟩ : ByteArray).size = s.length := by simp [ByteArray.size]
  rw [e2]
  rw [List.take_of_length_le (by simp)]
  simp
set_option maxRecDepth 100000 in
set_option maxHeartbeats 4000000 in
theorem Cut_any (s : Bytes) (c : UInt8) (hs : s.length ≤ 1100000) (w : World) : Calls Tryz.prog 7 #[str s, .int .u8 c.toNat] w fun e w' =>
    (∃ v, e = .returned v ∧ w'.ownsRow w.heap.size 9 1 v (cuts c s).length ((cuts c s).map str)) ∧ Below w.heap.size w w' := by
  obtain ⟨i0, hi0, hz0, hz1, hz2⟩ := info_parts infoStr
  go_enter Tryz.func7, Tryz.ntmps7
  go_wp2_with fail
  go_loopw [5, 6, 7] (fun ov fv iv wr => ∃ (f i : Nat) (done : List Bytes), fv = .int .i64 (f : Int) ∧ iv = .int .i64 (i : Int) ∧ i ≤ s.length ∧ RowKit.Hid (CutI c s f i done ∧ Below w.heap.size w wr ∧ wr.ownsRow w.heap.size 9 1 ov done.length (done.map str))) (fun _ _ iv _ => s.length - (intOf iv).toNat)
  case atStart => exact ⟨0, 0, [], rfl, rfl, Nat.zero_le _, Lib.hid ⟨CutI.zero c s, Below.refl _ _, World.ownsRow_nil _ _ _ _⟩⟩
  case round =>
    obtain ⟨f, i, done, rfl, rfl, hi, HK⟩ := hrel
    have hfi := HK.out.1.fi
    have hfew := HK.out.1.few
    have hsz := HK.out.2.1.size
    rcases Nat.lt_or_ge i s.length with hlt | hge
    · obtain ⟨x, hx⟩ : ∃ x, s[i]? = some x := ⟨s[i], by simp [hlt]⟩
      have hi0' : (0 : Int) ≤ (i : Int) := by omega
      have hi1 : (i : Int) < (s.length : Int) := by omega
      have hw1 : IntKind.i64.wrap ((i : Int) + 1) = ((i + 1 : Nat) : Int) := by rw [IntWalk.i64_in _ (by omega)]; omega
      have hsl := from_text s f i hfi (by omega)
      by_cases hxc : x = c
      · subst hxc
        have hb : ∀ (h : i < (⟨s.toArray⟩ : ByteArray).size), ((((⟨s.toArray⟩ : ByteArray)[i]'h).toNat : Int) == (x.toNat : Int)) = true := fun h => by
          obtain ⟨h1, h2⟩ := List.getElem?_eq_some_iff.1 hx
          have e : (⟨s.toArray⟩ : ByteArray)[i]'h = x := by rw [← h2]; rfl
          rw [e]; simp
        have HO := Lib.hid HK.out.2.2
        have HX := Lib.hid hx
        clear hx
        go_wp2_with (at_builtin; refine wpList_push2 _ rfl _ _ 23 rfl w.heap.size 9 i0 (.string ⟨#[]⟩) 1 16 Tryz.underlying23 hi0 hz0 hz1 hz2 rfl (by decide) _ _ _ rfl (HO.out.alloc _) ⟨wr.heap.size, 0, none⟩ 1 [str ((s.drop f).take (i - f))] rfl rfl (World.news_of_block (cs := #[str ((s.drop f).take (i - f))]) (t := 9) (fr := (0, 0)) (heap_alloc_at _ _ rfl)) (str1 _) (by unfold maxLen; omega) (by omega) (by simp; omega) ?_)
        intro g cap w7 hown hgr hat7
        have HB7 := Lib.hid ((HK.out.2.1.alloc hsz (.cells #[str ((s.drop f).take (i - f))] 9)).grown hgr (by simp; omega) (fun q hq => (HO.out.lt q hq).1))
        have HO7 := Lib.hid hown
        clear hown hgr hat7
        go_wp2_with fail
        go_roundw
        case rel => exact ⟨i + 1, i + 1, _, by go_num, by go_num, by omega, Lib.hid ⟨HK.out.1.hit HX.out, HB7.out, by rw [List.length_append, List.map_append]; exact HO7.out⟩⟩
        case measure => simp [intOf]; omega
      · have hb : ∀ (h : i < (⟨s.toArray⟩ : ByteArray).size), ((((⟨s.toArray⟩ : ByteArray)[i]'h).toNat : Int) == (c.toNat : Int)) = false := fun h => by
          obtain ⟨h1, h2⟩ := List.getElem?_eq_some_iff.1 hx
          have e : (⟨s.toArray⟩ : ByteArray)[i]'h = x := by rw [← h2]; rfl
          rw [e, beq_eq_false_iff_ne]
          intro h3
          exact hxc (UInt8.toNat_inj.1 (by omega))
        have HX := Lib.hid hx
        clear hx
        go_wp2_with fail
        go_roundw
        case rel => exact ⟨f, i + 1, done, rfl, by go_num, by omega, Lib.hid ⟨HK.out.1.miss HX.out hxc, HK.out.2⟩⟩
        case measure => simp [intOf]; omega
    · obtain rfl : i = s.length := by omega
      have hsl := rest_text s f (by omega)
      have HO := Lib.hid HK.out.2.2
      go_wp2_with (at_builtin; refine wpList_push2 _ rfl _ _ 23 rfl w.heap.size 9 i0 (.string ⟨#[]⟩) 1 16 Tryz.underlying23 hi0 hz0 hz1 hz2 rfl (by decide) _ _ _ rfl (HO.out.alloc _) ⟨wr.heap.size, 0, none⟩ 1 [str (s.drop f)] rfl rfl (World.news_of_block (cs := #[str (s.drop f)]) (t := 9) (fr := (0, 0)) (heap_alloc_at _ _ rfl)) (str1 _) (by unfold maxLen; omega) (by omega) (by simp; omega) ?_)
      intro g cap w7 hown hgr hat7
      have HB7 := Lib.hid ((HK.out.2.1.alloc hsz (.cells #[str (s.drop f)] 9)).grown hgr (by simp; omega) (fun q hq => (HO.out.lt q hq).1))
      have HO7 := Lib.hid hown
      clear hown hgr hat7
      go_wp2_with fail
      go_ret
      refine ⟨⟨_, rfl, ?_⟩, HB7.out⟩
      rw [← HK.out.1.fin, List.length_append, List.map_append]
      exact HO7.out
end Go.Proofs.YtalbllijahiiiaaGreatDoor
end

section
/- DeskKeeps: the plain law. -/
namespace Go.Proofs.YtalbllijahiiiaaGreatDoor
open Go.RowKit Go.Mine Go.Mine.Desk

def factS : Bytes := [99, 111, 117, 110, 116, 10, 115, 104, 111, 119, 32, 55]
theorem fact_run : runV factS = [[49, 48], [55]] := by kernel_rfl
def endT : Bytes := [99, 111, 117, 110, 116, 10, 114, 117, 110, 32, 49, 32, 51]
def endL : List Bytes := [[99, 111, 117, 110, 116], [114, 117, 110, 32, 49, 32, 51]]
theorem cuts_end : cuts 10 endT = endL := by kernel_rfl
/-- The texts that tell a fault. -/
def isErr (x : Bytes) : Prop := x = errName 7 ∨ x = errName 2 ∨ x = errName 4 ∨ x = errName 1 ∨ x = errName 3 ∨ x = errName 5
theorem okT_not : ¬ isErr okT := by
  have h : okT.length = 2 := rfl
  rintro (e | e | e | e | e | e) <;> (rw [e] at h; revert h; decide)
theorem ok_same {α : Type} {a b : α} {c : Except Int α} (h : c = .ok a) (h' : c = .ok b) : a = b := by rw [h] at h'; cases h'; rfl
theorem setR_out {st : St} {g : G} {out : Bytes} {st' : St} (h : setR st g = .ok (out, st')) : out = okT := by
  unfold setR at h
  split at h <;> cases h
  rfl
theorem words_keep (st : St) (l : List Bytes) {out : Bytes} {st' : St} (h : wordsR st l = .ok (out, st')) : out = okT ∨ st' = st := by
  have lim : ∀ x, limitR st x = .ok (out, st') → out = okT ∨ st' = st := fun x h => by
    unfold limitR at h
    split at h <;> cases h
    exact .inl rfl
  have nt : ∀ x, nthF st x = .ok (out, st') → out = okT ∨ st' = st := fun x h => by
    unfold nthF at h
    repeat' split at h
    all_goals cases h
    exact .inr rfl
  have sh : ∀ x, showF st x = .ok (out, st') → out = okT ∨ st' = st := fun x h => by
    unfold showF at h
    repeat' split at h
    all_goals cases h
    exact .inr rfl
  have le : ∀ x, lessF st x = .ok (out, st') → out = okT ∨ st' = st := fun x h => by
    unfold lessF at h
    repeat' split at h
    all_goals cases h
    exact .inr rfl
  have rn : ∀ x y, runF2 st x y = .ok (out, st') → out = okT ∨ st' = st := fun x y h => by
    unfold runF2 at h
    split at h
    · unfold runText at h
      repeat' split at h
      all_goals cases h
      all_goals exact .inr rfl
    · cases h
  have it : ∀ x y, intR st x y = .ok (out, st') → out = okT ∨ st' = st := fun x y h => by
    unfold intR at h
    split at h
    · exact .inl (setR_out h)
    · cases h
  have mn : ∀ x y z, manyR st x y z = .ok (out, st') → out = okT ∨ st' = st := fun x y z h => by
    unfold manyR at h
    split at h
    · exact .inl (setR_out h)
    · cases h
  have ct : countR st = .ok (out, st') → out = okT ∨ st' = st := fun h => by
    unfold countR at h
    split at h <;> cases h
    exact .inr rfl
  unfold wordsR at h
  repeat' split at h
  all_goals first | exact lim _ h | exact nt _ h | exact sh _ h | exact le _ h | exact rn _ _ h | exact it _ _ h | exact mn _ _ _ h | exact ct h | cases h
theorem line_keep (st : St) (s : Bytes) (h : isErr (lineR st s).1) : (lineR st s).2 = st := by
  unfold lineR at h ⊢
  cases he : wordsR st (cuts 32 s) with
  | error c => rfl
  | ok p =>
    obtain ⟨out, st'⟩ := p
    rw [he] at h
    rcases words_keep st _ he with rfl | rfl
    · exact absurd h okT_not
    · rfl
theorem linesOf_end (s : Bytes) : linesOf (s ++ 10 :: endT) = cuts 10 s ++ endL := by
  unfold linesOf
  have e : cuts 10 (s ++ 10 :: endT) = cuts 10 s ++ endL := by rw [cuts_append, cuts_end]
  rw [if_neg, e]
  have h : ∀ (l : List Bytes) (hn : l ≠ []), l = cuts 10 s ++ endL → ¬ l.getLast hn = [] := by
    intro l hn hl
    subst hl
    rw [List.getLast_append_of_ne_nil (l' := endL) hn (by unfold endL; simp)]
    unfold endL
    simp
  exact h _ _ e
/-- What is told of the two runs. -/
theorem keeps_plain (s line : Bytes) (h1 : (cuts 10 line).length = 1) (hn : 2 ≤ (runV (s ++ 10 :: endT)).length) (hb : (runV (s ++ 10 :: (line ++ 10 :: endT))).length = (runV (s ++ 10 :: endT)).length + 1) :
    ∃ (P T T' : List Bytes) (out : Bytes), runV (s ++ 10 :: endT) = P ++ T ∧ runV (s ++ 10 :: (line ++ 10 :: endT)) = P ++ out :: T' ∧ T.length = 2 ∧ T'.length = 2 ∧ (isErr out → T = T') := by
  have hl : cuts 10 line = [line] := cuts_none 10 line (cuts_one h1)
  have ea : linesOf (s ++ 10 :: endT) = cuts 10 s ++ endL := linesOf_end s
  have eb : linesOf (s ++ 10 :: (line ++ 10 :: endT)) = cuts 10 s ++ line :: endL := by
    have h := linesOf_end (s ++ 10 :: line)
    rw [show (s ++ 10 :: line) ++ 10 :: endT = s ++ 10 :: (line ++ 10 :: endT) by simp] at h
    rw [h, cuts_append, hl]
    simp
  have ra : runV (s ++ 10 :: endT) = answers st0 (cuts 10 s ++ endL) := by
    unfold runV at hn ⊢
    rw [ea] at hn ⊢
    split at hn
    · simp at hn
    · rename_i h; rw [if_neg h]
  have rb : runV (s ++ 10 :: (line ++ 10 :: endT)) = answers st0 (cuts 10 s ++ line :: endL) := by
    unfold runV at hb ⊢
    rw [eb] at hb ⊢
    split at hb
    · rw [ra] at hn
      unfold runV at ra
      simp only [List.length_cons, List.length_nil] at hb
      rw [show (if 100 < (linesOf (s ++ 10 :: endT)).length then [errName 4] else answers st0 (linesOf (s ++ 10 :: endT))) = answers st0 (cuts 10 s ++ endL) from ra] at hb
      omega
    · rename_i h; rw [if_neg h]
  refine ⟨answers st0 (cuts 10 s), answers (endSt st0 (cuts 10 s)) endL, answers (lineR (endSt st0 (cuts 10 s)) line).2 endL, (lineR (endSt st0 (cuts 10 s)) line).1, by rw [ra, answers_append], by rw [rb, answers_append]; rfl, by rw [answers_len]; rfl, by rw [answers_len]; rfl, fun h => by rw [line_keep _ _ h]⟩
theorem StrsAt.of_owns {w : World} {base n cap : Nat} {ao : Option Addr} {l : List Bytes} (h : w.ownsRow base 9 1 (.slice ao n cap) n (l.map str)) : StrsAt w ao l := by
  intro j hj
  have hl := h.1
  simp at hl
  rcases h.2 with ⟨h1, h2⟩ | ⟨g, cap', cur, h1, _⟩
  · omega
  · simp only [Value.slice.injEq] at h1
    obtain ⟨rfl, _, rfl⟩ := h1
    refine ⟨g, 0, rfl, ?_⟩
    have := h.cellAt j (by omega)
    simp [hj] at this ⊢
    exact this
end Go.Proofs.YtalbllijahiiiaaGreatDoor
end

section
/- DeskKeeps: the walk. -/
namespace Go.Proofs.YtalbllijahiiiaaGreatDoor
open Go.RowKit Go.Mine Go.Mine.Desk

theorem cat_text (a b : Bytes) : (⟨a.toArray⟩ : ByteArray) ++ ⟨b.toArray⟩ = ⟨(a ++ b).toArray⟩ := by
  apply ByteArray.ext
  simp
theorem runV_len (s : Bytes) : (runV s).length ≤ 100 := by
  unfold runV
  split
  · simp
  · rw [answers_len]; omega
theorem head_slice (b o n c k : Nat) (hk : k ≤ c) (w : World) : (Instr.slice 23 (.slice (some ⟨b, o, none⟩) n c) none (some (.int .i64 (k : Int))) none).run Tryz.prog w = .ok (.slice (some ⟨b, o, none⟩) k c) w := by
  have h := run_slice_h (P := Tryz.prog) (w := w) 23 (some ⟨b, o, none⟩) n c (by kernel_rfl) .i64 (k : Int) (by omega) (by omega)
  rw [h]
  have he : Tryz.prog.elem 23 = 9 := by kernel_rfl
  rw [he]
  obtain ⟨i0, hi0, hz0, hz1, hz2⟩ := info_parts infoStr
  simp [sizeOf, typeInfo, hi0, Result.andThen, sliced, Addr.add, go_sem]
theorem tail_slice (b o n c k : Nat) (hk : k ≤ n) (hc : k < c) (w : World) : (Instr.slice 23 (.slice (some ⟨b, o, none⟩) n c) (some (.int .i64 (k : Int))) none none).run Tryz.prog w = .ok (.slice (some ⟨b, o + k, none⟩) (n - k) (c - k)) w := by
  have h := run_slice_l (P := Tryz.prog) (w := w) 23 (some ⟨b, o, none⟩) n c (by kernel_rfl) .i64 (k : Int) (by omega) (by omega)
  rw [h]
  have he : Tryz.prog.elem 23 = 9 := by kernel_rfl
  rw [he]
  obtain ⟨i0, hi0, hz0, hz1, hz2⟩ := info_parts infoStr
  simp [sizeOf, typeInfo, hi0, hz1, Result.andThen, sliced, Addr.add, go_sem, show ¬ c = k by omega]
theorem StrsAt.head {w : World} {b o : Nat} {l r : List Bytes} (h : StrsAt w (some ⟨b, o, none⟩) (l ++ r)) : StrsAt w (some ⟨b, o, none⟩) l := fun j hj => by
  obtain ⟨b', o', e, hc⟩ := h j (by rw [List.length_append]; omega)
  refine ⟨b', o', e, ?_⟩
  rw [hc]
  simp [hj, List.getElem?_append_left]
theorem StrsAt.tail {w : World} {b o : Nat} {l r : List Bytes} (h : StrsAt w (some ⟨b, o, none⟩) (l ++ r)) : StrsAt w (some ⟨b, o + l.length, none⟩) r := fun j hj => by
  obtain ⟨b', o', e, hc⟩ := h (l.length + j) (by rw [List.length_append]; omega)
  cases e
  refine ⟨b, o + l.length, rfl, ?_⟩
  rw [show o + l.length + j = o + (l.length + j) by omega, hc]
  simp [List.getElem?_append_right]
theorem StrsAt.nth {w : World} {b o : Nat} {l r : List Bytes} {x : Bytes} (h : StrsAt w (some ⟨b, o, none⟩) (l ++ x :: r)) : w.cell? ⟨b, o + l.length, none⟩ = some (str x) := by
  obtain ⟨b', o', e, hc⟩ := h l.length (by rw [List.length_append, List.length_cons]; omega)
  cases e
  rw [hc]
  simp
theorem StrsAt.drewN {w : World} {ao : Option Addr} {l : List Bytes} (h : StrsAt w ao l) (n : Nat) : StrsAt (w.drewN n) ao l := h
theorem Texts_same (xs : List Bytes) (a b : Option Addr) (n ca cb : Nat) (hn : n = xs.length) (w : World) (hx : StrsAt w a xs) (hy : StrsAt w b xs) (hl : n ≤ 100) (q : Nat) :
    Calls Tryz.prog 5 #[.slice a n ca, .slice b n cb] (w.drewN q) fun e w' => e = .returned (.bool true) ∧ ∃ n, w' = (w.drewN q).drewN n := by
  subst hn
  have h := Texts_any xs xs a b ca cb (w.drewN q) (hx.drewN q) (hy.drewN q) (by unfold maxLen; omega)
  rw [show decide (xs = xs) = true by simp] at h
  exact h
theorem owns_cap {w : World} {base : Nat} {e : TypeId} {size : Nat} {ao : Option Addr} {n c : Nat} {xs : List Value} (h : w.ownsRow base e size (.slice ao n c) n xs) (hn : 0 < n) : (∃ g, ao = some ⟨g, 0, none⟩) ∧ n ≤ c := by
  rcases h.2 with ⟨_, h0⟩ | ⟨g, cap, cur, hv, _, _, hcap, _⟩
  · omega
  · cases hv
    exact ⟨⟨g, rfl⟩, hcap⟩
theorem Cut_nl (s : Bytes) (hs : s.length ≤ 1100000) (w : World) : Calls Tryz.prog 7 #[str s, .int .u8 10] w fun e w' =>
    (∃ v, e = .returned v ∧ w'.ownsRow w.heap.size 9 1 v (cuts 10 s).length ((cuts 10 s).map str)) ∧ Below w.heap.size w w' := by
  have h := Cut_any s 10 hs w
  rw [show (((10 : UInt8).toNat : Nat) : Int) = 10 from rfl] at h
  exact h
theorem cat3 (s line : Bytes) : ((({ data := s.toArray } : ByteArray) ++ { data := #[10] }) ++ { data := line.toArray }) ++ { data := #[10, 99, 111, 117, 110, 116, 10, 114, 117, 110, 32, 49, 32, 51] } = ⟨(s ++ 10 :: (line ++ 10 :: endT)).toArray⟩ := by
  rw [show ({ data := #[10, 99, 111, 117, 110, 116, 10, 114, 117, 110, 32, 49, 32, 51] } : ByteArray) = ⟨(10 :: endT).toArray⟩ from rfl, show ({ data := #[10] } : ByteArray) = ⟨([10] : Bytes).toArray⟩ from rfl, cat_text, cat_text, cat_text, show ((s ++ [10]) ++ line) ++ 10 :: endT = s ++ 10 :: (line ++ 10 :: endT) by simp]
theorem cat1 (s : Bytes) : ({ data := s.toArray } : ByteArray) ++ { data := #[10, 99, 111, 117, 110, 116, 10, 114, 117, 110, 32, 49, 32, 51] } = ⟨(s ++ 10 :: endT).toArray⟩ := by
  rw [show ({ data := #[10, 99, 111, 117, 110, 116, 10, 114, 117, 110, 32, 49, 32, 51] } : ByteArray) = ⟨(10 :: endT).toArray⟩ from rfl, cat_text]
set_option maxRecDepth 100000 in
set_option maxHeartbeats 8000000 in
theorem keeps_walk (s line : Bytes) (hs : s.length + line.length + 16 ≤ 1100000) (w : World) (hg : Gl w) :
    Calls Tryz.prog 4 #[str s, str line] w fun e w' => e = .returned (.bool true) ∧ Below w.heap.size w w' := by
  have HR0 := Lib.hid (drun_script factS (by decide) w hg)
  have HG := Lib.hid hg
  have HS := Lib.hid hs
  clear hg hs
  go_enter Tryz.func4, Tryz.ntmps4
  go_wp2_with fail
  refine HR0.out.mono ?_
  clear HR0
  rintro e w1 ⟨⟨u, rfl, hown⟩, hb1⟩
  rw [fact_run] at hown
  obtain ⟨uo, uc, rfl⟩ := owns_shape hown
  have H1 := Lib.hid (And.intro hb1 (StrsAt.of_owns hown))
  clear hb1 hown
  go_wp2_with fail
  have hb2 : Below w1.heap.size w1 (w1.alloc (.cells #[str [49, 48], str [55]] 9)) := (Below.refl _ _).alloc (Nat.le_refl _) _
  refine (Texts_any [[49, 48], [55]] [[49, 48], [55]] uo (some ⟨w1.heap.size, 0, none⟩) uc 2 _ (H1.out.2.on hb2) (StrsAt.of_owns (World.ownsRow_lit w1 (base := w1.heap.size) #[str [49, 48], str [55]] 2 (Nat.le_refl _) (by unfold maxLen; omega) rfl)) (by unfold maxLen; simp)).mono ?_
  rintro e w2 ⟨rfl, n2, hw2⟩
  have hb3 : Below w.heap.size w w2 := by rw [hw2]; exact below_drewN (H1.out.1.trans (hb2.mono H1.out.1.size)) _
  have H2 := Lib.hid hb3
  clear hb2 hb3 hw2
  rw [show decide ([[49, 48], [55]] = ([[49, 48], [55]] : List Bytes)) = true by decide]
  have hl1 : ¬ 9223372036854775807 < s.length + 14 := by have := HS.out; omega
  have HR1 := Lib.hid (drun_script (s ++ 10 :: endT) (by have := HS.out; rw [List.length_append, List.length_cons, show endT.length = 13 from rfl]; omega) w2 (HG.out.on H2.out))
  go_wp2_with fail
  rw [cat1]
  refine HR1.out.mono ?_
  clear HR1
  rintro e w3 ⟨⟨u, rfl, hown⟩, hb3⟩
  obtain ⟨ao, ac, rfl⟩ := owns_shape hown
  have H3 := Lib.hid (And.intro (H2.out.trans (hb3.mono H2.out.size)) hown)
  clear hb3 hown
  obtain ⟨a, ha⟩ : ∃ a, a = runV (s ++ 10 :: endT) := ⟨_, rfl⟩
  rw [← ha] at H3 ⊢
  have HA := Lib.hid ha
  clear ha
  have hl2 : ¬ 9223372036854775807 < s.length + 1 := by have := HS.out; omega
  have hl3 : ¬ 9223372036854775807 < s.length + 1 + line.length := by have := HS.out; omega
  have hl4 : ¬ 9223372036854775807 < s.length + 1 + line.length + 14 := by have := HS.out; omega
  have HR2 := Lib.hid (drun_script (s ++ 10 :: (line ++ 10 :: endT)) (by have := HS.out; rw [List.length_append, List.length_cons, List.length_append, List.length_cons, show endT.length = 13 from rfl]; omega) w3 (HG.out.on H3.out.1))
  go_wp2_with fail
  rw [cat3]
  refine HR2.out.mono ?_
  clear HR2
  rintro e w4 ⟨⟨u, rfl, hown⟩, hb4⟩
  obtain ⟨bo, bc, rfl⟩ := owns_shape hown
  have H4 := Lib.hid (And.intro (H3.out.1.trans (hb4.mono H3.out.1.size)) (And.intro (owns_below H3.out.2 hb4) hown))
  clear hb4 hown
  obtain ⟨b, hb⟩ : ∃ b, b = runV (s ++ 10 :: (line ++ 10 :: endT)) := ⟨_, rfl⟩
  rw [← hb] at H4 ⊢
  have HB := Lib.hid hb
  clear hb
  have HCU := Lib.hid (Cut_nl line (by have := HS.out; omega) w4)
  go_wp2_with fail
  refine HCU.out.mono ?_
  clear HCU
  rintro e w5 ⟨⟨u, rfl, hown⟩, hb5⟩
  obtain ⟨co, cc, rfl⟩ := owns_shape hown
  have H5 := Lib.hid (And.intro (H4.out.1.trans (hb5.mono H4.out.1.size)) (And.intro (owns_below H4.out.2.1 hb5) (owns_below H4.out.2.2 hb5)))
  clear hb5 hown
  obtain ⟨cn, hcn⟩ : ∃ cn, cn = (cuts 10 line).length := ⟨_, rfl⟩
  rw [← hcn]
  have HC := Lib.hid hcn
  clear hcn
  obtain ⟨n, hn⟩ : ∃ n, n = a.length := ⟨_, rfl⟩
  obtain ⟨m, hm⟩ : ∃ m, m = b.length := ⟨_, rfl⟩
  rw [← hn, ← hm]
  have hmx : m ≤ 100 := by rw [hm, HB.out]; exact runV_len _
  have hnx : n ≤ 100 := by rw [hn, HA.out]; exact runV_len _
  have HN := Lib.hid (And.intro hn hm)
  have hwr : wrap64 ((n : Int) + 1) = ((n + 1 : Nat) : Int) := by unfold wrap64; omega
  clear hn hm
  by_cases h1 : cn = 1
  · subst h1
    by_cases h2 : m = n + 1
    · subst h2
      by_cases h3 : n < 2
      · have d3 : decide ((n : Int) < 2) = true := decide_eq_true (by omega)
        go_wp2_with fail
        go_ret
        exact ⟨rfl, H5.out.1⟩
      · have d3 : decide ((n : Int) < 2) = false := decide_eq_false (by omega)
        obtain ⟨Ph, Ta, Tb, out, ha, hb, hta, htb, hie⟩ := keeps_plain s line HC.out.symm (by rw [← HA.out, ← HN.out.1]; omega) (by rw [← HA.out, ← HB.out, ← HN.out.1, ← HN.out.2])
        rw [← HA.out] at ha
        rw [← HB.out] at hb
        obtain ⟨p, hp⟩ : ∃ p, p = Ph.length := ⟨_, rfl⟩
        have hnp : n = p + 2 := by rw [HN.out.1, ha, List.length_append, hta, hp]
        obtain ⟨q, hq⟩ : ∃ q, q = p + 1 := ⟨_, rfl⟩
        have hoa := H5.out.2.1
        have hob := H5.out.2.2
        rw [← HN.out.1] at hoa
        rw [← HN.out.2] at hob
        obtain ⟨⟨ga, rfl⟩, hac⟩ := owns_cap hoa (by omega)
        obtain ⟨⟨gb, rfl⟩, hbc⟩ := owns_cap hob (by omega)
        have hsa := StrsAt.of_owns hoa
        have hsb := StrsAt.of_owns hob
        rw [ha] at hsa
        rw [hb] at hsb
        have HT1 := Lib.hid (Texts_same Ph (some ⟨ga, 0, none⟩) (some ⟨gb, 0, none⟩) p ac bc hp w5 hsa.head hsb.head (by omega))
        have cx : w5.cell? ⟨gb, p, none⟩ = some (str out) := by have h := hsb.nth; rw [← hp, Nat.zero_add] at h; exact h
        have HT2 := Lib.hid (fun (hi : isErr out) (k : Nat) => Texts_same Ta (some ⟨ga, p, none⟩) (some ⟨gb, q, none⟩) 2 (ac - p) (bc - q) hta.symm w5 (by have h := hsa.tail; rw [← hp, Nat.zero_add] at h; exact h) (by
          have h := (show StrsAt w5 (some ⟨gb, 0, none⟩) ((Ph ++ [out]) ++ Tb) by rw [List.append_assoc]; exact hsb).tail
          rw [List.length_append, ← hp, Nat.zero_add, ← hie hi] at h
          rw [hq]
          exact h) (by omega) k)
        have hs1 := head_slice ga 0 n ac p (by omega)
        have hs2 := head_slice gb 0 (n + 1) bc p (by omega)
        have hs3 := tail_slice ga 0 n ac p (by omega) (by omega)
        have hs4 := tail_slice gb 0 (n + 1) bc q (by omega) (by omega)
        rw [Nat.zero_add, show n - p = 2 by omega] at hs3
        rw [Nat.zero_add, show n + 1 - q = 2 by omega] at hs4
        have hm2 : IntKind.i64.wrap ((n : Int) - 2) = (p : Int) := by rw [IntWalk.i64_in _ (by omega)]; omega
        have hm1 : IntKind.i64.wrap ((n : Int) - 1) = (q : Int) := by rw [IntWalk.i64_in _ (by omega)]; omega
        have hv2 : wrap64 ((n : Int) - 2) = (p : Int) := by unfold wrap64; omega
        have hv1 : wrap64 ((n : Int) - 1) = (q : Int) := by unfold wrap64; omega
        have hp0 : (0 : Int) ≤ (p : Int) := by omega
        have hp1 : (p : Int) < ((n + 1 : Nat) : Int) := by omega
        have hp2 : p < n + 1 := by omega
        clear hp hq hnp
        clear hoa hob hsa hsb ha hb hta htb hie
        go_wp2_with fail
        go_quiet (first | (go_at_call 5; (with_reducible exact Calls.quiet_of (HT1.out _))))
        by_cases hi : isErr out
        · have HIE := Lib.hid (HT2.out hi)
          clear HT2
          rcases hi with ho | ho | ho | ho | ho | ho
          · replace ho : out = ([69, 114, 114, 83, 121, 110, 116, 97, 120] : Bytes) := ho
            go_wp2_with fail
            go_quiet (first | (go_at_call 5; refine Calls.mono (HIE.out _) (fun e w'' h => ⟨h.1, h.2.elim fun n e => ⟨_, e.trans (by rw [drewN_drewN, Nat.add_assoc])⟩⟩)))
            go_wp2_with fail
            go_ret
            exact ⟨rfl, below_drewN H5.out.1 _⟩
          · have e7 : ¬ out = ([69, 114, 114, 83, 121, 110, 116, 97, 120] : Bytes) := by rw [ho]; decide
            replace ho : out = ([69, 114, 114, 78, 111, 110, 101] : Bytes) := ho
            go_wp2_with fail
            go_quiet (first | (go_at_call 5; refine Calls.mono (HIE.out _) (fun e w'' h => ⟨h.1, h.2.elim fun n e => ⟨_, e.trans (by rw [drewN_drewN, Nat.add_assoc])⟩⟩)))
            go_wp2_with fail
            go_ret
            exact ⟨rfl, below_drewN H5.out.1 _⟩
          · have e7 : ¬ out = ([69, 114, 114, 83, 121, 110, 116, 97, 120] : Bytes) := by rw [ho]; decide
            have e2 : ¬ out = ([69, 114, 114, 78, 111, 110, 101] : Bytes) := by rw [ho]; decide
            replace ho : out = ([69, 114, 114, 70, 117, 108, 108] : Bytes) := ho
            go_wp2_with fail
            go_quiet (first | (go_at_call 5; refine Calls.mono (HIE.out _) (fun e w'' h => ⟨h.1, h.2.elim fun n e => ⟨_, e.trans (by rw [drewN_drewN, Nat.add_assoc])⟩⟩)))
            go_wp2_with fail
            go_ret
            exact ⟨rfl, below_drewN H5.out.1 _⟩
          · have e7 : ¬ out = ([69, 114, 114, 83, 121, 110, 116, 97, 120] : Bytes) := by rw [ho]; decide
            have e2 : ¬ out = ([69, 114, 114, 78, 111, 110, 101] : Bytes) := by rw [ho]; decide
            have e4 : ¬ out = ([69, 114, 114, 70, 117, 108, 108] : Bytes) := by rw [ho]; decide
            replace ho : out = ([69, 114, 114, 82, 97, 110, 103, 101] : Bytes) := ho
            go_wp2_with fail
            go_quiet (first | (go_at_call 5; refine Calls.mono (HIE.out _) (fun e w'' h => ⟨h.1, h.2.elim fun n e => ⟨_, e.trans (by rw [drewN_drewN, Nat.add_assoc])⟩⟩)))
            go_wp2_with fail
            go_ret
            exact ⟨rfl, below_drewN H5.out.1 _⟩
          · have e7 : ¬ out = ([69, 114, 114, 83, 121, 110, 116, 97, 120] : Bytes) := by rw [ho]; decide
            have e2 : ¬ out = ([69, 114, 114, 78, 111, 110, 101] : Bytes) := by rw [ho]; decide
            have e4 : ¬ out = ([69, 114, 114, 70, 117, 108, 108] : Bytes) := by rw [ho]; decide
            have e1 : ¬ out = ([69, 114, 114, 82, 97, 110, 103, 101] : Bytes) := by rw [ho]; decide
            replace ho : out = ([69, 114, 114, 70, 111, 114, 109] : Bytes) := ho
            go_wp2_with fail
            go_quiet (first | (go_at_call 5; refine Calls.mono (HIE.out _) (fun e w'' h => ⟨h.1, h.2.elim fun n e => ⟨_, e.trans (by rw [drewN_drewN, Nat.add_assoc])⟩⟩)))
            go_wp2_with fail
            go_ret
            exact ⟨rfl, below_drewN H5.out.1 _⟩
          · have e7 : ¬ out = ([69, 114, 114, 83, 121, 110, 116, 97, 120] : Bytes) := by rw [ho]; decide
            have e2 : ¬ out = ([69, 114, 114, 78, 111, 110, 101] : Bytes) := by rw [ho]; decide
            have e4 : ¬ out = ([69, 114, 114, 70, 117, 108, 108] : Bytes) := by rw [ho]; decide
            have e1 : ¬ out = ([69, 114, 114, 82, 97, 110, 103, 101] : Bytes) := by rw [ho]; decide
            have e3 : ¬ out = ([69, 114, 114, 70, 111, 114, 109] : Bytes) := by rw [ho]; decide
            replace ho : out = ([69, 114, 114, 83, 104, 111, 114, 116] : Bytes) := ho
            go_wp2_with fail
            go_quiet (first | (go_at_call 5; refine Calls.mono (HIE.out _) (fun e w'' h => ⟨h.1, h.2.elim fun n e => ⟨_, e.trans (by rw [drewN_drewN, Nat.add_assoc])⟩⟩)))
            go_wp2_with fail
            go_ret
            exact ⟨rfl, below_drewN H5.out.1 _⟩
        · have e7 : ¬ out = ([69, 114, 114, 83, 121, 110, 116, 97, 120] : Bytes) := fun e => hi (.inl e)
          have e2 : ¬ out = ([69, 114, 114, 78, 111, 110, 101] : Bytes) := fun e => hi (.inr (.inl e))
          have e4 : ¬ out = ([69, 114, 114, 70, 117, 108, 108] : Bytes) := fun e => hi (.inr (.inr (.inl e)))
          have e1 : ¬ out = ([69, 114, 114, 82, 97, 110, 103, 101] : Bytes) := fun e => hi (.inr (.inr (.inr (.inl e))))
          have e3 : ¬ out = ([69, 114, 114, 70, 111, 114, 109] : Bytes) := fun e => hi (.inr (.inr (.inr (.inr (.inl e)))))
          have e5 : ¬ out = ([69, 114, 114, 83, 104, 111, 114, 116] : Bytes) := fun e => hi (.inr (.inr (.inr (.inr (.inr (e))))))
          have b7 : (!out == ([69, 114, 114, 83, 121, 110, 116, 97, 120] : Bytes)) = true := by simpa using e7
          have b2 : (!out == ([69, 114, 114, 78, 111, 110, 101] : Bytes)) = true := by simpa using e2
          have b4 : (!out == ([69, 114, 114, 70, 117, 108, 108] : Bytes)) = true := by simpa using e4
          have b1 : (!out == ([69, 114, 114, 82, 97, 110, 103, 101] : Bytes)) = true := by simpa using e1
          have b3 : (!out == ([69, 114, 114, 70, 111, 114, 109] : Bytes)) = true := by simpa using e3
          have b5 : (!out == ([69, 114, 114, 83, 104, 111, 114, 116] : Bytes)) = true := by simpa using e5
          clear hi HT2
          go_wp2_with fail
          go_ret
          exact ⟨rfl, below_drewN H5.out.1 _⟩
    · have h2' : ¬ ((m : Int) = ((n + 1 : Nat) : Int)) := by omega
      go_wp2_with fail
      go_ret
      exact ⟨rfl, H5.out.1⟩
  · have h1' : ¬ ((cn : Int) = 1) := by omega
    go_wp2_with fail
    go_ret
    exact ⟨rfl, H5.out.1⟩
end Go.Proofs.YtalbllijahiiiaaGreatDoor
end

section
/- DeskKeeps: the row and its card (second form). -/
namespace Go.Proofs.YtalbllijahiiiaaGreatDoor
open Go.RowKit Go.Mine Go.Mine.Desk
namespace deskKeeps
open Go.ChangeShapes Go.WideShapes Go.ChangeAt Go.ChangeMaps
theorem own : ownKnob Tryz.prog.godebug = none := by kernel_rfl
theorem laidOut : laidOutB Tryz.prog = true := by kernel_rfl
theorem star : "*" ++ "errors.errorString" = "*errors.errorString" := by decide
theorem rowE (u : TypeId) (h : Tryz.prog.typeName? 3 u = some "*errors.errorString") : u = 206 :=
  typeName_ptr_named (nm := "errors.errorString") (by rw [star]; kernel_rfl) (by kernel_rfl) (by decide) u (by rw [star]; exact h)
set_option maxRecDepth 100000 in
theorem laid_of {W : World} (hL : laidMetH Tryz.prog Rows.deskKeepsUptoRow.laid W) (hsh : W.ShapedOpen Tryz.prog) : Gl W := by
  rw [MakeChecks.laidMetH_plain _ _ _ (by kernel_rfl)] at hL
  have h0 : laidMet Tryz.prog [("math/bits.deBruijn32tab", Rows.laid_math_bits_deBruijn32tab), ("math/bits.deBruijn64tab", Rows.laid_math_bits_deBruijn64tab), ("internal/strconv.uint64pow10", Go.Lib.tabData .u64 Go.Lib.pow10Tab), ("unicode/utf8.acceptRanges", Rows.laid_unicode_utf8_acceptRanges), ("strconv.ErrRange", Rows.laid_strconv_ErrRange), ("strconv.ErrSyntax", Rows.laid_strconv_ErrSyntax), ("assayer/expr.takes", Go.Lib.tabData .i64 takesL), ("unicode/utf8.first", Rows.laid_unicode_utf8_first)] W := hL
  have h1 := Go.laidMet.tail h0
  have h2 := Go.laidMet.tail h1
  have h3 := Go.laidMet.tail h2
  have h4 := Go.laidMet.tail h3
  have h5 := Go.laidMet.tail h4
  have h6 := Go.laidMet.tail h5
  have tp : Go.Lib.TabIs Tryz.prog W "internal/strconv.uint64pow10" .u64 Go.Lib.pow10Tab := Go.Lib.tabIs_of_head (g := 5) (t := 200) (by kernel_rfl) (by kernel_rfl) Tryz.underlying200 Tryz.underlying85 (by kernel_rfl) (by kernel_rfl) h2
  have tk : Go.Lib.TabIs Tryz.prog W "assayer/expr.takes" .i64 takesL := Go.Lib.tabIs_of_head (g := 6) (t := 203) (by kernel_rfl) (by kernel_rfl) Tryz.underlying203 Tryz.underlying3 (by kernel_rfl) (by kernel_rfl) h6
  obtain ⟨a0, s0, hv0, -, -, -⟩ := laid_sentinel (g := 4) (ti := 100) (te := 208) (ts := 9) h4 (by kernel_rfl) (by kernel_rfl) Tryz.underlying100 rowE Tryz.underlying206 Tryz.underlying208 rfl rfl Tryz.underlying9 (by kernel_rfl) (by kernel_rfl)
  obtain ⟨a1, s1, hv1, -, -, -⟩ := laid_sentinel (g := 3) (ti := 100) (te := 208) (ts := 9) h5 (by kernel_rfl) (by kernel_rfl) Tryz.underlying100 rowE Tryz.underlying206 Tryz.underlying208 rfl rfl Tryz.underlying9 (by kernel_rfl) (by kernel_rfl)
  have hmx := Go.Proofs.cell_of_shapedOpen_int (g := 0) (t := 3) (zero := #[.int .i64 0]) (k := .i64) hsh (of_decide_eq_true (by kernel_rfl)) (by kernel_rfl) rfl (by kernel_rfl) (by kernel_rfl) Tryz.underlying3
  refine ⟨?_, hmx, ⟨_, (by have h := World.var?_cell (show Tryz.prog.globalNamed "strconv.ErrSyntax" = some 3 by kernel_rfl) hv1 0; simpa using h), .inr ⟨_, _, rfl⟩⟩, ⟨_, (by have h := World.var?_cell (show Tryz.prog.globalNamed "strconv.ErrRange" = some 4 by kernel_rfl) hv0 0; simpa using h), .inr ⟨_, _, rfl⟩⟩, fun _ => tp, fun k hk => tk.cell (by kernel_rfl) k hk⟩
  obtain ⟨cs, hh, _⟩ := hsh.1 8 _ _ (of_decide_eq_true (by kernel_rfl)) (show ((begin Tryz.prog (fun _ _ => 0) default).world.heap[8]?).bind Obj.row? = some ((List.replicate 64 (Value.int .u8 0)).toArray, 212) by kernel_rfl)
  exact (Array.getElem?_eq_some_iff.1 hh).1

noncomputable def laidWorld (os : Os) : World := World.laidAll Tryz.prog os Rows.deskKeepsUptoRow.laid
theorem laid_met (os : Os) : laidMetH Tryz.prog Rows.deskKeepsUptoRow.laid ((laidWorld os).forCall (fun _ _ => 0) ⟨#[], #[.string ⟨#[]⟩, .string ⟨#[]⟩], []⟩).memory := by
  rw [MakeChecks.laidMetH_plain _ _ _ (by kernel_rfl)]
  exact laidMet_laidAll _ (by kernel_rfl) (by kernel_rfl)
theorem reads (os : Os) {H : Type} (enc : TypeId × Value → H) : ∃ places, DataW.whole enc Tryz.prog ((laidWorld os).forCall (fun _ _ => 0) ⟨#[], #[.string ⟨#[]⟩, .string ⟨#[]⟩], []⟩).memory Tryz.f4.params.toList Rows.deskKeepsSpec.vars false (#[.string ⟨#[]⟩, .string ⟨#[]⟩] : Array Value).toList 8 = some ([.lit (.string []), .lit (.string [])], [], places) :=
  ⟨[], by kernel_rfl⟩
set_option maxRecDepth 100000 in
theorem contract (H : Type) (enc : TypeId × Value → H) (W : World) (base : Nat) (args : Array Value) (ds gs : List (DataW H)) (before : List MemPlace)
    (hval0 : ∀ (j : Nat) t v, Tryz.f4.params[j]? = some t → args[j]? = some v → Value.okWide Tryz.prog W .any base t v)
    (hW : DataW.Whole enc Tryz.prog Tryz.f4.params.toList Rows.deskKeepsSpec.vars false W args.toList ds gs before) (hk : Rows.uptoSmall H (ds ++ gs) = true) (hL : Gl W) :
    Calls Tryz.prog 4 args W fun e W' => ∃ v, e = .returned v ∧ Rows.deskKeepsSpec.post enc Tryz.prog Tryz.f4 false true false false W args v W' := by
  have hval : ∀ (j : Nat) t v, Tryz.f4.params[j]? = some t → args[j]? = some v → Value.okWide Tryz.prog W .any base t v := hval0
  have hW' := hW
  obtain ⟨p, q, hA0, hV, rfl, hfz, hnd⟩ := hW
  have hA : DataW.TrodAll enc Tryz.prog W 0 (fun _ => true) true Tryz.f4.params.toList args.toList ds p := hA0
  rw [Tryz.params4] at hA hval
  obtain ⟨v0, vs0, d0, ds0, p0, q0, hargs, rfl, rfl, h0, r0⟩ := trodAll_cons hA
  obtain ⟨v1, vs1, d1, ds1, p1, q1, rfl, rfl, rfl, h1, r1⟩ := trodAll_cons r0
  obtain ⟨rfl, rfl, rfl⟩ := trodAll_nil r1
  obtain rfl : args = #[v0, v1] := by cases args; simp_all
  obtain ⟨rfl, rfl⟩ := trodVars_none hV
  obtain ⟨⟨⟨s0⟩⟩, rfl, rfl, rfl, hs0⟩ := open_string Tryz.underlying9 (hval 0 9 v0 rfl rfl) h0
  obtain ⟨⟨⟨s1⟩⟩, rfl, rfl, rfl, hs1⟩ := open_string Tryz.underlying9 (hval 1 9 v1 rfl rfl) h1
  have hb := of_decide_eq_true hk
  simp only [List.append_nil, Rows.uptoBulkAll, Rows.uptoBulk] at hb
  clear hA0 hval0 hk
  simp only [List.append_nil] at hW'
  refine (keeps_walk s0 s1 (by omega) W hL).mono fun e W' ⟨he, bel⟩ => ?_
  subst he
  exact ⟨_, rfl, _, _, _, [], _, [], hW', trodAll_mk1 (shut_bool Tryz.underlying4 _), (trodAll_cons_mk (shut_string Tryz.underlying9 hs0) (trodAll_cons_mk (shut_string Tryz.underlying9 hs1) trodAll_mk0)), rfl, bel.frame _, fun h => by cases h⟩

set_option maxRecDepth 100000 in
theorem lifted (os : Os) (started : os.Started) (H : Type) (enc : TypeId × Value → H) (F : Stop.Interp) :
    ReturnsInHanded {} Tryz.checked os 4 .any ((Rows.OpenSpec.upto Rows.deskKeepsSpec).preRow enc Tryz.prog Tryz.f4 Rows.deskKeepsUptoRow.domain false Rows.deskKeepsUptoRow.laid) (((Rows.OpenSpec.upto Rows.deskKeepsSpec).at F).post enc Tryz.prog Tryz.f4 false true false false) := by
  obtain ⟨places, hx⟩ := reads os enc
  refine returnsInHanded_of_row (C := Tryz.checked) (s := Rows.OpenSpec.upto Rows.deskKeepsSpec) own started (by kernel_rfl) Tryz.func4
    (witness_row_at (enc := enc) (C := Tryz.checked) false (laidWorld os) #[.string ⟨#[]⟩, .string ⟨#[]⟩] (World.laidAll_os _ _ _) (by kernel_rfl) (by kernel_rfl) (by kernel_rfl)
      (OpenSpec.preRow_of_cond 8 hx (by kernel_rfl) (fun k hk => by cases hk; kernel_rfl) (by kernel_rfl) (laid_met os))) ?_
  intro W base args ds gs before hval hW _ hcond _ hL hsh _
  exact contract H enc W base args ds gs before hval hW (hcond _ rfl) (laid_of hL hsh)
theorem said : Rows.DeskKeepsUptoSaid :=
  OpenClaim.holds_of_cond 4 Tryz.f4 rfl rfl rfl rfl rfl rfl rfl ⟨rfl, rfl, rfl, rfl, rfl⟩ rfl rfl rfl rfl rfl (by kernel_rfl) Tryz.func4 (by kernel_rfl)
    (of_decide_eq_true (by kernel_rfl)) (by unfold Func.isWrapper; first | (rw [if_pos (by decide +kernel)]; kernel_rfl) | (rw [if_neg (by decide +kernel)]; exact ⟨rfl, rfl⟩))
    (fun os started H enc _ F => by rw [OpenClaim.pre_eq_preRow]; exact lifted os started H enc F)
theorem plain (f : FuncId) (fn : Func) (hf : Tryz.pinned.checked.prog.funcNamed "assayer/assayerlaw4.DeskKeeps" = some f) (hfn : Tryz.pinned.checked.prog.funcs[f]? = some fn) :
    true = Tryz.pinned.checked.prog.looks [] ∧ ∀ (j : Nat) t, fn.params[j]? = some t → Tryz.pinned.checked.prog.wantsStandIn t = false := by
  obtain rfl : f = 4 := Option.some.inj ((show Tryz.prog.funcNamed "assayer/assayerlaw4.DeskKeeps" = some 4 by kernel_rfl).symm.trans hf) |>.symm
  obtain rfl : fn = Tryz.f4 := (Option.some.inj (Tryz.func4.symm.trans hfn)).symm
  refine ⟨by kernel_rfl, fun j t ht => ?_⟩
  rw [Tryz.params4] at ht
  have h := Array.mem_of_getElem? ht
  simp only [List.mem_toArray, List.mem_cons, List.not_mem_nil, or_false] at h
  rcases h with rfl | rfl
  · exact (show Tryz.prog.wantsStandIn 9 = false by kernel_rfl)
  · exact (show Tryz.prog.wantsStandIn 9 = false by kernel_rfl)
theorem proved : Rows.DeskKeepsUptoCardSaid :=
  Claim7.holds_tied_plain_at .later [] _ _ _ _ said (fun _ h => by cases h) (by kernel_rfl) (fun _ h => by cases h) deskKeepsUpto_row_tie rfl ⟨rfl, rfl⟩ (by kernel_rfl) rfl plain (by kernel_rfl)
#print axioms proved
end deskKeeps
end Go.Proofs.YtalbllijahiiiaaGreatDoor
end
