/- Errno.Error; desk.forms: a map of the forms; the recovering closure of a line. (*desk).line. -/
import Derived.Test.YtalbllijahiiiaaGreatDoorDkAT
import Derived.Test.YtalbllijahiiiaaGreatDoorMapF
import Derived.StillTailTactics
section
namespace Go.Proofs.YtalbllijahiiiaaGreatDoor
open Go.RowKit Go.Mine Go.Mine.Desk Go.Maps

def errName (c : Int) : Bytes :=
  if c = 0 then [79, 75] else if c = 1 then [69, 114, 114, 82, 97, 110, 103, 101] else if c = 2 then [69, 114, 114, 78, 111, 110, 101] else if c = 3 then [69, 114, 114, 70, 111, 114, 109]
  else if c = 4 then [69, 114, 114, 70, 117, 108, 108] else if c = 5 then [69, 114, 114, 83, 104, 111, 114, 116] else if c = 6 then [69, 114, 114, 90, 101, 114, 111] else if c = 7 then [69, 114, 114, 83, 121, 110, 116, 97, 120] else [69, 114, 114, 110, 111]
set_option maxRecDepth 100000 in
set_option maxHeartbeats 2000000 in
theorem error_any (c : Int) (w : World) : Calls Tryz.prog 10 #[.int .i64 c] w fun e w' => e = .returned (str (errName c)) ∧ w' = w := by
  go_enter Tryz.func10, Tryz.ntmps10
  by_cases h0 : c = 0
  · subst h0; go_wp2_with fail; go_ret; exact ⟨rfl, rfl⟩
  by_cases h1 : c = 1
  · subst h1; go_wp2_with fail; go_ret; exact ⟨rfl, rfl⟩
  by_cases h2 : c = 2
  · subst h2; go_wp2_with fail; go_ret; exact ⟨rfl, rfl⟩
  by_cases h3 : c = 3
  · subst h3; go_wp2_with fail; go_ret; exact ⟨rfl, rfl⟩
  by_cases h4 : c = 4
  · subst h4; go_wp2_with fail; go_ret; exact ⟨rfl, rfl⟩
  by_cases h5 : c = 5
  · subst h5; go_wp2_with fail; go_ret; exact ⟨rfl, rfl⟩
  by_cases h6 : c = 6
  · subst h6; go_wp2_with fail; go_ret; exact ⟨rfl, rfl⟩
  by_cases h7 : c = 7
  · subst h7; go_wp2_with fail; go_ret; exact ⟨rfl, rfl⟩
  have HE := Lib.hid (show errName c = [69, 114, 114, 110, 111] by unfold errName; rw [if_neg h0, if_neg h1, if_neg h2, if_neg h3, if_neg h4, if_neg h5, if_neg h6, if_neg h7])
  go_wp2_with fail
  go_ret
  rw [HE.out]
  exact ⟨rfl, rfl⟩
def kInt : Bytes := [105, 110, 116]
def kMany : Bytes := [109, 97, 110, 121]
def kLimit : Bytes := [108, 105, 109, 105, 116]
def kCount : Bytes := [99, 111, 117, 110, 116]
def kNth : Bytes := [110, 116, 104]
def kShow : Bytes := [115, 104, 111, 119]
def kLess : Bytes := [108, 101, 115, 115]
def kRun : Bytes := [114, 117, 110]
abbrev formV (k : Int) (f : Nat) : Value := .agg #[.int .i64 k, .func (.func f) #[] #[]]
def formsF : Bytes → Option Value :=
  upd (upd (upd (upd (upd (upd (upd (upd (fun _ => none) kInt (formV 2 42)) kMany (formV 3 45)) kLimit (formV 1 46)) kCount (formV 0 47))
    kNth (formV 1 51)) kShow (formV 1 55)) kLess (formV 1 60)) kRun (formV 2 64)
theorem key_str (x : Bytes) (h : x.length ≤ maxLen) : keyOf Tryz.prog 9 (str x) = some (.string x) := by
  have hk : Tryz.prog.underlying 9 = some .string := Tryz.underlying9
  simp [keyOf, hk, mapKey, ByteArray.size, h]
theorem str_inj (x y : Bytes) (h : str x = str y) : x = y := by simpa using h
theorem T70 : Tryz.prog.underlying 70 = some (.map 9 74) := by kernel_rfl
set_option maxRecDepth 100000 in
set_option maxHeartbeats 4000000 in
theorem forms_any (w : World) : Calls Tryz.prog 28 #[] w fun e w' => (∃ b, e = .returned (.map (some b)) ∧ HasMap Tryz.prog 9 (fun x : Bytes => str x) w' b formsF) ∧ Below w.heap.size w w' := by
  have hmm := @run_makeMap Tryz.prog
  have K := string_keyed (P := Tryz.prog) (k := 9) Tryz.underlying9
  have m0 := HasMap.made Tryz.prog 9 (fun x : Bytes => str x) w
  obtain ⟨w1, r1, m1, g1, s1⟩ := m0.store K T70 str_inj (key_str kInt (by decide)) (formV 2 42)
  obtain ⟨w2, r2, m2, g2, s2⟩ := m1.store K T70 str_inj (key_str kMany (by decide)) (formV 3 45)
  obtain ⟨w3, r3, m3, g3, s3⟩ := m2.store K T70 str_inj (key_str kLimit (by decide)) (formV 1 46)
  obtain ⟨w4, r4, m4, g4, s4⟩ := m3.store K T70 str_inj (key_str kCount (by decide)) (formV 0 47)
  obtain ⟨w5, r5, m5, g5, s5⟩ := m4.store K T70 str_inj (key_str kNth (by decide)) (formV 1 51)
  obtain ⟨w6, r6, m6, g6, s6⟩ := m5.store K T70 str_inj (key_str kShow (by decide)) (formV 1 55)
  obtain ⟨w7, r7, m7, g7, s7⟩ := m6.store K T70 str_inj (key_str kLess (by decide)) (formV 1 60)
  obtain ⟨w8, r8, m8, g8, s8⟩ := m7.store K T70 str_inj (key_str kRun (by decide)) (formV 2 64)
  have hb : Below w.heap.size w w8 := by
    have h0 : Below w.heap.size w (w.alloc (.map #[] 0)) := (Below.refl _ _).alloc (Nat.le_refl _) _
    have hz : (w.alloc (.map #[] 0)).heap.size = w.heap.size + 1 := by simp
    exact (((((((h0.grown g1 (by omega) (fun q hq => by cases hq; exact Nat.le_refl _)).grown g2 (by omega) (fun q hq => by cases hq; exact Nat.le_refl _)).grown g3 (by omega) (fun q hq => by cases hq; exact Nat.le_refl _)).grown g4 (by omega) (fun q hq => by cases hq; exact Nat.le_refl _)).grown g5 (by omega) (fun q hq => by cases hq; exact Nat.le_refl _)).grown g6 (by omega) (fun q hq => by cases hq; exact Nat.le_refl _)).grown g7 (by omega) (fun q hq => by cases hq; exact Nat.le_refl _)).grown g8 (by omega) (fun q hq => by cases hq; exact Nat.le_refl _)
  have HM := Lib.hid (And.intro m8 hb)
  clear m0 m1 m2 m3 m4 m5 m6 m7 m8 g1 g2 g3 g4 g5 g6 g7 g8 s1 s2 s3 s4 s5 s6 s7 s8 hb K
  simp only [kInt, kMany, kLimit, kCount, kNth, kShow, kLess, kRun] at r1 r2 r3 r4 r5 r6 r7 r8
  go_enter Tryz.func28, Tryz.ntmps28
  go_wp2_with fail
  go_ret
  exact ⟨⟨_, rfl, HM.out.1⟩, HM.out.2⟩
theorem lcatch_idle (p : Addr) (w : World) :
    CallsD Tryz.prog 27 #[.pointer (some p)] .returning w fun e u' w' => e = .returned (.tuple #[]) ∧ u' = .returning ∧ w' = w := by
  refine callsD_of_wpS Tryz.func27 rfl fun c₀ cs hu => ?_
  apply wpS_seq
  apply wpS_region
  simp [wpOpsS, go_sem, recoverD, hu, Tryz.ntmps27, Exit.thenS]
  rw [show #[.pointer (some p)] ++ ((Array.replicate 16 undef).setIfInBounds 3 (.nilIface : Value)).setIfInBounds 0 .nilIface = #[.pointer (some p), .nilIface, undef, undef, .nilIface, undef, undef, undef, undef, undef, undef, undef, undef, undef, undef, undef, undef] from by kernel_rfl]
  refine wpS_of_wp ?_
  go_wp2_with fail
  cases c₀
  simp_all [bodyPostS, results, Tryz.results27]
set_option maxRecDepth 100000 in
theorem lcatch_panicking (b4 : Nat) (c : Int) (v0 : Value) (older : List PanicEntry) (w : World) (h4 : Blk w b4 9 #[v0]) :
    CallsD Tryz.prog 27 #[.pointer (some ⟨b4, 0, none⟩)] (.panicking (errnoE c false :: older)) w fun e u' w' =>
      e = .returned (.tuple #[]) ∧ u' = .panicking (errnoE c true :: older) ∧ w' = w.setCell ⟨b4, 0, none⟩ (str (errName c)) := by
  have c0 : w.cell? ⟨b4, 0, none⟩ = some v0 := h4.cell 0
  have f0 := h4.froz 0
  have hta := assert_errno c
  have HE := Lib.hid (error_any c w)
  refine callsD_of_wpS Tryz.func27 rfl fun c₀ cs hu => ?_
  apply wpS_seq
  apply wpS_region
  simp [wpOpsS, go_sem, recoverD, hu, Tryz.ntmps27, Exit.thenS]
  rw [show #[.pointer (some ⟨b4, 0, none⟩)] ++ ((Array.replicate 16 undef).setIfInBounds 3 ((.iface 36 (.int .i64 c)) : Value)).setIfInBounds 0 (.iface 36 (.int .i64 c)) = #[.pointer (some ⟨b4, 0, none⟩), (.iface 36 (.int .i64 c)), undef, undef, (.iface 36 (.int .i64 c)), undef, undef, undef, undef, undef, undef, undef, undef, undef, undef, undef, undef] from by kernel_rfl]
  refine wpS_of_wp ?_
  go_wp2_with fail
  refine HE.out.mono ?_
  rintro e w1 ⟨rfl, rfl⟩
  go_wp2_with fail
  cases c₀
  simp_all [bodyPostS, results, Tryz.results27]
end Go.Proofs.YtalbllijahiiiaaGreatDoor
end

section
namespace Go.Proofs.YtalbllijahiiiaaGreatDoor
open Go.RowKit Go.Mine Go.Mine.Desk Go.Maps

def lineOut (st : St) : Except Int (Bytes × St) → Bytes × St
  | .ok p => p
  | .error c => (errName c, st)
def wordsR (st : St) : List Bytes → Except Int (Bytes × St)
  | [k] => if k = kCount then countR st else .error 7
  | [k, x] => if k = kLimit then limitR st x else if k = kNth then nthF st x else if k = kShow then showF st x else if k = kLess then lessF st x else .error 7
  | [k, x, y] => if k = kInt then intR st x y else if k = kRun then runF2 st x y else .error 7
  | [k, x, y, z] => if k = kMany then manyR st x y z else .error 7
  | _ => .error 7
def lineR (st : St) (s : Bytes) : Bytes × St := lineOut st (wordsR st (cuts 32 s))
def LinePost (p : Bytes × St) (db : Nat) (w : World) (e : Ending) (w' : World) : Prop :=
  Tch (fun k => k = db) w w' ∧ e = .returned (str p.1) ∧ DeskAt w' db p.2.1 p.2.2
theorem zero74 (w : World) : (zeroValue 74).run Tryz.prog w = .ok (.agg #[.int .i64 0, .nilFunc]) w := by kernel_rfl
theorem cell_strs {l : List Bytes} {w : World} {q : Nat} (h : Blk w q 9 (l.map str).toArray) (j : Nat) (hj : j < l.length) : w.cell? ⟨q, j, none⟩ = some (str (l.getD j [])) := by
  rw [h.cell j]
  simp [hj]
structure LI (w : World) (B : Nat) (l : List Bytes) (q mb db : Nat) (d : DV) (g : G) (n : Int) (W : World) : Prop where
  below : Below w.heap.size w W
  res : Blk W B 9 #[str []]
  words : Blk W q 9 (l.map str).toArray
  forms : HasMap Tryz.prog 9 (fun x : Bytes => str x) W mb formsF
  desk : DeskIs W db d g n
  globals : Gl W
theorem LI.later {w : World} {B : Nat} {l : List Bytes} {q mb db : Nat} {d : DV} {g : G} {n : Int} {W W' : World} (h : LI w B l q mb db d g n W) (hb : Below W.heap.size W W') : LI w B l q mb db d g n W' :=
  ⟨h.below.trans (hb.mono h.below.size), h.res.below hb, h.words.below hb, h.forms.keep (hb.block mb h.forms.lt), h.desk.on hb, h.globals.on hb⟩
theorem blk_types {w : World} {b b' : Nat} {T T' : TypeId} {cs cs' : Array Value} (h : Blk w b T cs) (h' : Blk w b' T' cs') (hne : T ≠ T') : b ≠ b' := by
  rintro rfl
  have h1 : w.heap[b]? = _ := h
  have h2 : w.heap[b]? = _ := h'
  rw [h1] at h2
  simp only [Option.some.injEq, Obj.cells.injEq] at h2
  exact hne h2.2.1
theorem DeskIs.far {w : World} {db : Nat} {d : DV} {g : G} {n : Int} (h : DeskIs w db d g n) {b : Nat} {cs : Array Value} (hb : Blk w b 9 cs) (i : Nat) (v : Value) : DeskIs (w.setCell ⟨b, i, none⟩ v) db d g n :=
  ⟨h.blk.other b i (blk_types h.blk hb (by decide)) v, h.gen.kept fun x _ _ hs => Below.heap_setCell w ⟨b, i, none⟩ v x (blk_types (show Blk w x 28 _ from hs) hb (by decide)),
    (Below.heap_setCell w ⟨b, i, none⟩ v d.eb (blk_types (show Blk w d.eb 41 _ from h.expr) hb (by decide))).trans h.expr, h.right, h.lim⟩
set_option maxRecDepth 100000 in
set_option maxHeartbeats 4000000 in
theorem line_none (db : Nat) (g : G) (n : Int) (s x0 : Bytes) (args : List Bytes) (hs : s.length ≤ 1100000) (hl : cuts 32 s = x0 :: args) (hF : formsF x0 = none ∨ ∃ nw fk, formsF x0 = some (formV nw fk) ∧ (args.length : Int) ≠ nw ∧ 0 ≤ nw ∧ nw ≤ 3) (w : World) (hg : Gl w) (hd : DeskAt w db g n) :
    Calls Tryz.prog 12 #[.pointer (some ⟨db, 0, none⟩), str s] w (LinePost (errName 7, (g, n)) db w) := by
  have hmf : ∀ (fn : Fn) (first cap : Array Value) (w : World), (Instr.makeFunc fn first cap).run Tryz.prog w = .ok (.func fn first cap) w := fun _ _ _ _ => rfl
  obtain ⟨d, hd⟩ := hd
  obtain ⟨w0, hw0⟩ : ∃ w0, w0 = w.alloc (.cells #[str []] 9) := ⟨_, rfl⟩
  have hb0 : Below w.heap.size w w0 := by rw [hw0]; exact (Below.refl w.heap.size w).alloc (Nat.le_refl _) _
  have k0 : Blk w0 w.heap.size 9 #[str []] := by rw [hw0]; exact Blk.new _ _ _
  have hz0 : w0.heap.size = w.heap.size + 1 := by rw [hw0]; simp
  obtain ⟨B, hB⟩ : ∃ B, w.heap.size = B := ⟨_, rfl⟩
  rw [hB] at k0 hz0
  obtain ⟨q, hq⟩ : ∃ q, q = w0.heap.size := ⟨_, rfl⟩
  obtain ⟨w1, hw1⟩ : ∃ w1, w1 = w0.alloc (.cells ((x0 :: args).map str).toArray 9) := ⟨_, rfl⟩
  have hb1 : Below w0.heap.size w0 w1 := by rw [hw1]; exact (Below.refl _ _).alloc (Nat.le_refl _) _
  have k1 : Blk w1 q 9 ((x0 :: args).map str).toArray := by rw [hw1, hq]; exact Blk.new _ _ _
  have HS := Lib.hid (cutText_any s 32 (by omega) w0 (hg.on hb0))
  rw [hl] at HS
  have HFM := Lib.hid (forms_any w1)
  have H1 := Lib.hid (show Below w.heap.size w w1 ∧ Blk w1 B 9 #[str []] ∧ Blk w1 q 9 ((x0 :: args).map str).toArray ∧ DeskIs w1 db d g n ∧ Gl w1 from
    ⟨hb0.trans (hb1.mono hb0.size), k0.below hb1, k1, (hd.on hb0).on hb1, (hg.on hb0).on hb1⟩)
  have hx0 : x0.length ≤ maxLen := by
    have h := cuts_part 32 s x0 (by rw [hl]; exact List.mem_cons_self)
    unfold maxLen
    omega
  have K := string_keyed (P := Tryz.prog) (k := 9) Tryz.underlying9
  have HLK := Lib.hid (fun (W : World) (mb : Nat) (hm : HasMap Tryz.prog 9 (fun x : Bytes => str x) W mb formsF) => hm.look true K T70 str_inj (zero74 W) (key_str x0 hx0))
  obtain ⟨m, hm⟩ : ∃ m, m = args.length := ⟨_, rfl⟩
  have hml : (x0 :: args).length = m + 1 := by rw [List.length_cons, hm]
  have hmb : m + 1 ≤ 1100001 := by
    have h := cuts_length 32 s
    rw [hl, hml] at h
    omega
  rw [hml, ← hw1, ← hq] at HS
  have HW := Lib.hid (And.intro hw0 (And.intro hq (And.intro hm hB)))
  have hqB : q ≠ B := by omega
  have hdl : db < B := by rw [← hB]; exact hd.blk.lt
  rw [hw0] at HS
  clear hw0 hw1 hb0 hb1 k0 k1 hz0 hg hd hl hx0 K hml hq hm
  go_enter_defers Tryz.func12, Tryz.ntmps12
  go_wp2_with fail
  refine HS.out.mono ?_
  clear HS
  rintro e w1' ⟨rfl, rfl⟩
  go_wp2_with fail
  refine HFM.out.mono ?_
  clear HFM
  rintro e w2 ⟨⟨mb, rfl, hmap⟩, hb2⟩
  have HLI := Lib.hid (show LI w B (x0 :: args) q mb db d g n w2 from ⟨H1.out.1.trans (hb2.mono H1.out.1.size), H1.out.2.1.below hb2, H1.out.2.2.1.below hb2, hmap, H1.out.2.2.2.1.on hb2, H1.out.2.2.2.2.on hb2⟩)
  have hlk := HLK.out w2 mb hmap
  have e0 : w2.cell? ⟨q, 0, none⟩ = some (str x0) := cell_strs HLI.out.words 0 (by simp)
  have r0 : w2.cell? ⟨B, 0, none⟩ = some (str []) := HLI.out.res.cell 0
  have rf0 := HLI.out.res.froz 0
  have hBl : B < w2.heap.size := HLI.out.res.lt
  have hi1 : (0 : Int) < (m : Int) + 1 := by omega
  clear hb2 hmap H1
  rcases hF with hF | ⟨nw, fk, hF, hne, hn0, hn3⟩
  · rw [hF] at hlk
    simp only [Option.getD_none, Option.isSome_none, if_true] at hlk
    have HE := Lib.hid (fun wx => error_any 7 wx)
    go_wp2_with fail
    refine (HE.out _).mono ?_
    rintro e w3 ⟨rfl, hw3⟩
    have hb23 : Below w2.heap.size w2 w3 := by rw [hw3]; exact (Below.refl _ _).alloc (Nat.le_refl _) _
    have HL3 := Lib.hid (HLI.out.later hb23)
    have q0 : w3.cell? ⟨B, 0, none⟩ = some (str []) := HL3.out.res.cell 0
    have qf0 := HL3.out.res.froz 0
    clear hw3 hb23 e0 r0 rf0
    go_wp2_with fail
    refine leaves_cons (f := 27) (args := #[.pointer (some ⟨B, 0, none⟩)]) (by simp) (by simp [go_sem]) ?_
    refine (lcatch_idle _ _).mono ?_
    rintro e u' w'' ⟨rfl, rfl, hw⟩
    have k9 : Blk w'' B 9 #[str (errName 7)] := by rw [hw]; simpa using HL3.out.res.set 0 (str (errName 7))
    have c9 : w''.cell? ⟨B, 0, none⟩ = some (str (errName 7)) := k9.cell 0
    have hB := HW.out.2.2.2
    have HBW := Lib.hid (show Below w.heap.size w w'' by rw [hw]; exact HL3.out.below.setCell (by rw [hB]; exact Nat.le_refl _) _)
    have HD9 := Lib.hid (show DeskAt w'' db g n by rw [hw]; exact (HL3.out.desk.far HL3.out.res 0 _).at)
    clear hw
    simp [Leaves, settle, results, Tryz.results12, go_sem, c9]
    exact ⟨Tch.of_below HBW.out, rfl, HD9.out⟩
  · rw [hF] at hlk
    simp only [Option.getD_some, Option.isSome_some, if_true] at hlk
    have HE := Lib.hid (fun wx => error_any 7 wx)
    rw [← HW.out.2.2.1] at hne
    have hw1 : wrap64 (nw + 1) = nw + 1 := by unfold wrap64; omega
    have hne2 : ¬ (m : Int) + 1 = nw + 1 := by omega
    have hne3 : ¬ (m : Int) = nw := by omega
    go_wp2_with fail
    refine (HE.out _).mono ?_
    rintro e w3 ⟨rfl, hw3⟩
    have hb23 : Below w2.heap.size w2 w3 := by rw [hw3]; exact (Below.refl _ _).alloc (Nat.le_refl _) _
    have HL3 := Lib.hid (HLI.out.later hb23)
    have q0 : w3.cell? ⟨B, 0, none⟩ = some (str []) := HL3.out.res.cell 0
    have qf0 := HL3.out.res.froz 0
    clear hw3 hb23 e0 r0 rf0
    go_wp2_with fail
    refine leaves_cons (f := 27) (args := #[.pointer (some ⟨B, 0, none⟩)]) (by simp) (by simp [go_sem]) ?_
    refine (lcatch_idle _ _).mono ?_
    rintro e u' w'' ⟨rfl, rfl, hw⟩
    have k9 : Blk w'' B 9 #[str (errName 7)] := by rw [hw]; simpa using HL3.out.res.set 0 (str (errName 7))
    have c9 : w''.cell? ⟨B, 0, none⟩ = some (str (errName 7)) := k9.cell 0
    have hB := HW.out.2.2.2
    have HBW := Lib.hid (show Below w.heap.size w w'' by rw [hw]; exact HL3.out.below.setCell (by rw [hB]; exact Nat.le_refl _) _)
    have HD9 := Lib.hid (show DeskAt w'' db g n by rw [hw]; exact (HL3.out.desk.far HL3.out.res 0 _).at)
    clear hw
    simp [Leaves, settle, results, Tryz.results12, go_sem, c9]
    exact ⟨Tch.of_below HBW.out, rfl, HD9.out⟩
set_option maxRecDepth 100000 in
set_option maxHeartbeats 8000000 in
theorem line_core (db : Nat) (g : G) (n : Int) (s x0 : Bytes) (args : List Bytes) (hs : s.length ≤ 1100000) (hl : cuts 32 s = x0 :: args) (nw : Int) (fk : Nat) (hF : formsF x0 = some (formV nw fk)) (hnw : (args.length : Int) = nw) (hn3 : nw ≤ 3)
    (hent : ∀ (a : Array Value) (w : World), Sem.run Tryz.prog (callFunc fk a) w = .ok (.enter fk a) w) (r : Except Int (Bytes × St))
    (hform : ∀ (wx : World) (wo : Option Addr) (wc : Nat), Gl wx → DeskAt wx db g n → StrsAt wx wo args → Calls Tryz.prog fk #[.pointer (some ⟨db, 0, none⟩), .slice wo args.length wc] wx (FormPost (g, n) r db wx)) (w : World) (hg : Gl w) (hd : DeskAt w db g n) :
    Calls Tryz.prog 12 #[.pointer (some ⟨db, 0, none⟩), str s] w (LinePost (lineOut (g, n) r) db w) := by
  have hmf : ∀ (fn : Fn) (first cap : Array Value) (w : World), (Instr.makeFunc fn first cap).run Tryz.prog w = .ok (.func fn first cap) w := fun _ _ _ _ => rfl
  obtain ⟨d, hd⟩ := hd
  obtain ⟨w0, hw0⟩ : ∃ w0, w0 = w.alloc (.cells #[str []] 9) := ⟨_, rfl⟩
  have hb0 : Below w.heap.size w w0 := by rw [hw0]; exact (Below.refl w.heap.size w).alloc (Nat.le_refl _) _
  have k0 : Blk w0 w.heap.size 9 #[str []] := by rw [hw0]; exact Blk.new _ _ _
  have hz0 : w0.heap.size = w.heap.size + 1 := by rw [hw0]; simp
  obtain ⟨B, hB⟩ : ∃ B, w.heap.size = B := ⟨_, rfl⟩
  rw [hB] at k0 hz0
  obtain ⟨q, hq⟩ : ∃ q, q = w0.heap.size := ⟨_, rfl⟩
  obtain ⟨w1, hw1⟩ : ∃ w1, w1 = w0.alloc (.cells ((x0 :: args).map str).toArray 9) := ⟨_, rfl⟩
  have hb1 : Below w0.heap.size w0 w1 := by rw [hw1]; exact (Below.refl _ _).alloc (Nat.le_refl _) _
  have k1 : Blk w1 q 9 ((x0 :: args).map str).toArray := by rw [hw1, hq]; exact Blk.new _ _ _
  have HS := Lib.hid (cutText_any s 32 (by omega) w0 (hg.on hb0))
  rw [hl] at HS
  have HFM := Lib.hid (forms_any w1)
  have H1 := Lib.hid (show Below w.heap.size w w1 ∧ Blk w1 B 9 #[str []] ∧ Blk w1 q 9 ((x0 :: args).map str).toArray ∧ DeskIs w1 db d g n ∧ Gl w1 from
    ⟨hb0.trans (hb1.mono hb0.size), k0.below hb1, k1, (hd.on hb0).on hb1, (hg.on hb0).on hb1⟩)
  have hx0 : x0.length ≤ maxLen := by
    have h := cuts_part 32 s x0 (by rw [hl]; exact List.mem_cons_self)
    unfold maxLen
    omega
  have K := string_keyed (P := Tryz.prog) (k := 9) Tryz.underlying9
  have HLK := Lib.hid (fun (W : World) (mb : Nat) (hm : HasMap Tryz.prog 9 (fun x : Bytes => str x) W mb formsF) => hm.look true K T70 str_inj (zero74 W) (key_str x0 hx0))
  have HFO := Lib.hid hform
  obtain ⟨m, hm⟩ : ∃ m, m = args.length := ⟨_, rfl⟩
  have hml : (x0 :: args).length = m + 1 := by rw [List.length_cons, hm]
  have hmb : m + 1 ≤ 1100001 := by
    have h := cuts_length 32 s
    rw [hl, hml] at h
    omega
  rw [hml, ← hw1, ← hq] at HS
  have HW := Lib.hid (And.intro hw0 (And.intro hq (And.intro hm hB)))
  have hqB : q ≠ B := by omega
  have hdl : db < B := by rw [← hB]; exact hd.blk.lt
  rw [hw0] at HS
  clear hw0 hw1 hb0 hb1 k0 k1 hz0 hg hd hl hx0 K hml hq hm
  go_enter_defers Tryz.func12, Tryz.ntmps12
  go_wp2_with fail
  refine HS.out.mono ?_
  clear HS
  rintro e w1' ⟨rfl, rfl⟩
  go_wp2_with fail
  refine HFM.out.mono ?_
  clear HFM
  rintro e w2 ⟨⟨mb, rfl, hmap⟩, hb2⟩
  have HLI := Lib.hid (show LI w B (x0 :: args) q mb db d g n w2 from ⟨H1.out.1.trans (hb2.mono H1.out.1.size), H1.out.2.1.below hb2, H1.out.2.2.1.below hb2, hmap, H1.out.2.2.2.1.on hb2, H1.out.2.2.2.2.on hb2⟩)
  have hlk := HLK.out w2 mb hmap
  have e0 : w2.cell? ⟨q, 0, none⟩ = some (str x0) := cell_strs HLI.out.words 0 (by simp)
  have r0 : w2.cell? ⟨B, 0, none⟩ = some (str []) := HLI.out.res.cell 0
  have rf0 := HLI.out.res.froz 0
  have hBl : B < w2.heap.size := HLI.out.res.lt
  have hi1 : (0 : Int) < (m : Int) + 1 := by omega
  clear hb2 hmap H1
  rw [hF] at hlk
  simp only [Option.getD_some, Option.isSome_some, if_true] at hlk
  rw [← HW.out.2.2.1] at hnw
  subst hnw
  have hw1 : wrap64 ((m : Int) + 1) = (m : Int) + 1 := by unfold wrap64; omega
  obtain ⟨wo, hwo⟩ : ∃ wo, wo = (if m + 1 = 1 then some (⟨q, 0, none⟩ : Addr) else some ⟨q, 1, none⟩) := ⟨_, rfl⟩
  have hsl : ∀ w, (Instr.slice 23 (.slice (some ⟨q, 0, none⟩) (m + 1) (m + 1)) (some (.int .i64 1)) none none).run Tryz.prog w = .ok (.slice wo m m) w := fun w => by
    have h := run_slice_l (P := Tryz.prog) (w := w) 23 (some ⟨q, 0, none⟩) (m + 1) (m + 1) (by kernel_rfl) .i64 1 (by omega) (by omega)
    rw [h]
    have he : Tryz.prog.elem 23 = 9 := by kernel_rfl
    obtain ⟨i0, hi0, hz0, hz1, hz2⟩ := info_parts infoStr
    rw [he]
    simp [sizeOf, typeInfo, hi0, hz1, Result.andThen, sliced, hwo, go_sem]
  obtain ⟨w3, hw3⟩ : ∃ w3, w3 = w2.alloc (.cells #[.int .i64 (m : Int), .func (.func fk) #[] #[]] 74) := ⟨_, rfl⟩
  obtain ⟨fb, hfb⟩ : ∃ fb, fb = w2.heap.size := ⟨_, rfl⟩
  have hb23 : Below w2.heap.size w2 w3 := by rw [hw3]; exact (Below.refl _ _).alloc (Nat.le_refl _) _
  have kf : Blk w3 fb 74 #[.int .i64 (m : Int), .func (.func fk) #[] #[]] := by rw [hw3, hfb]; exact Blk.new _ _ _
  have HL3 := Lib.hid (HLI.out.later hb23)
  have HKF := Lib.hid (And.intro kf (show db < fb by omega))
  have HB3 := Lib.hid (show Below w3.heap.size w3 w3.drew from (Below.refl _ _).drew)
  have hws : StrsAt w3.drew wo args := fun j hj => by
    have h := cell_strs HL3.out.words (j + 1) (by rw [List.length_cons]; omega)
    refine ⟨q, 1, ?_, ?_⟩
    · rw [hwo, if_neg (by have := HW.out.2.2.1; omega)]
    · rw [Nat.add_comm 1 j]
      exact h
  have HCF := Lib.hid (HFO.out w3.drew wo m (HL3.out.globals.on HB3.out) (HL3.out.desk.on HB3.out).at hws)
  rw [← HW.out.2.2.1] at HCF
  have HW3 := Lib.hid (And.intro hw3 hfb)
  have c1 : w3.cell? ⟨fb, 1, none⟩ = some (.func (.func fk) #[] #[]) := kf.cell 1
  have q0 : w3.cell? ⟨B, 0, none⟩ = some (str []) := HL3.out.res.cell 0
  clear hw3 hfb hb23 kf hws hwo
  go_wp2_with fail
  rw [← HW3.out.1, ← HW3.out.2]
  cases r with
  | ok p =>
    obtain ⟨out, st'⟩ := p
    go_still_tail 5, (by kernel_rfl)
    go_wp2_with fail
    refine HCF.out.mono ?_
    rintro e w9 ⟨ht, hhow⟩
    have hp : e = .returned (str out) ∧ DeskAt w9 db st'.1 st'.2 := by
      rcases hhow with ⟨o', s', h1, h2, h3⟩ | ⟨c', h1, _⟩
      · cases h1
        exact ⟨h2, h3⟩
      · cases h1
    obtain ⟨hp, hd9⟩ := hp
    subst hp
    have hk9 : Blk w9 B 9 #[str []] := (HL3.out.res.drew).touch ht (by omega)
    have H9 := Lib.hid (And.intro ht (And.intro hd9 hk9))
    have k9 : w9.cell? ⟨B, 0, none⟩ = some (str []) := hk9.cell 0
    have kf9 := hk9.froz 0
    clear ht hhow hd9 hk9
    go_wp2_with fail
    refine leaves_cons (f := 27) (args := #[.pointer (some ⟨B, 0, none⟩)]) (by simp) (by simp [go_sem]) ?_
    refine (lcatch_idle _ _).mono ?_
    rintro e u' w'' ⟨rfl, rfl, hw⟩
    have k10 : Blk w'' B 9 #[str out] := by rw [hw]; simpa using H9.out.2.2.set 0 (str out)
    have c11 : w''.cell? ⟨B, 0, none⟩ = some (str out) := k10.cell 0
    have hB0 := HW.out.2.2.2
    have HBW := Lib.hid (show Tch (fun k => k = db) w w'' by rw [hw]; exact ((Tch.of_below (S := fun k => k = db) (HL3.out.below.trans (HB3.out.mono HL3.out.below.size))).trans H9.out.1 (fun _ h => .inl h)).set (.inr (by show w.heap.size ≤ B; omega)) _)
    have HD9 := Lib.hid (show DeskAt w'' db st'.1 st'.2 by rw [hw]; obtain ⟨d9, h9⟩ := H9.out.2.1; exact (h9.far H9.out.2.2 0 _).at)
    clear hw
    simp [Leaves, settle, results, Tryz.results12, go_sem, c11]
    exact ⟨HBW.out, rfl, HD9.out⟩
  | error c =>
    go_still_tail 5, (by kernel_rfl)
    go_wp2_with fail
    refine HCF.out.mono ?_
    rintro e w9 ⟨ht, hhow⟩
    have hp : e = panics c ∧ DeskAt w9 db g n := by
      rcases hhow with ⟨o', s', h1, _⟩ | ⟨c', h1, h2, h3⟩
      · cases h1
      · cases h1
        exact ⟨h2, h3⟩
    obtain ⟨hp, hd9⟩ := hp
    subst hp
    have hk9 : Blk w9 B 9 #[str []] := (HL3.out.res.drew).touch ht (by omega)
    have H9 := Lib.hid (And.intro ht (And.intro hd9 hk9))
    have k9 : w9.cell? ⟨B, 0, none⟩ = some (str []) := hk9.cell 0
    have kf9 := hk9.froz 0
    clear ht hhow hd9 hk9
    go_wp2_with fail
    refine leaves_cons (f := 27) (args := #[.pointer (some ⟨B, 0, none⟩)]) (by simp) (by simp [go_sem]) ?_
    refine (lcatch_panicking B c _ _ _ H9.out.2.2).mono ?_
    rintro e u' w'' ⟨rfl, rfl, hw⟩
    have k10 : Blk w'' B 9 #[str (errName c)] := by rw [hw]; simpa using H9.out.2.2.set 0 (str (errName c))
    have c11 : w''.cell? ⟨B, 0, none⟩ = some (str (errName c)) := k10.cell 0
    have hB0 := HW.out.2.2.2
    have HBW := Lib.hid (show Tch (fun k => k = db) w w'' by rw [hw]; exact ((Tch.of_below (S := fun k => k = db) (HL3.out.below.trans (HB3.out.mono HL3.out.below.size))).trans H9.out.1 (fun _ h => .inl h)).set (.inr (by show w.heap.size ≤ B; omega)) _)
    have HD9 := Lib.hid (show DeskAt w'' db g n by rw [hw]; obtain ⟨d9, h9⟩ := H9.out.2.1; exact (h9.far H9.out.2.2 0 _).at)
    clear hw
    simp [Leaves, settle, results, Tryz.results12, go_sem, c11]
    exact ⟨HBW.out, rfl, HD9.out⟩
end Go.Proofs.YtalbllijahiiiaaGreatDoor
end
