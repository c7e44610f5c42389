/- DeskAnswers (second form, tied card): whatever the script, what desk.Run tells is what the document's Answered tells line by line. No conditions beyond the statement's own. assayerref2.Answered is lineR. DeskAnswers: the walk. CONDITION: what start-up lays (Gl); the script's length. DeskAnswers: the row and its card (second form). -/
import Derived.Test.YtalbllijahiiiaaGreatDoorDkBK
import Derived.Test.YtalbllijahiiiaaGreatDoorDkBL
import Derived.Test.YtalbllijahiiiaaGreatDoorDkBM
import Derived.Test.YtalbllijahiiiaaGreatDoorDkBN
import Derived.Test.YtalbllijahiiiaaGreatDoorDkBO
import Derived.Test.YtalbllijahiiiaaGreatDoorDkBP
import Derived.Deep.Cut
import Derived.Deep.CutRange
import Derived.Test.YtalbllijahiiiaaGreatDoorCards
import Derived.Test.YtalbllijahiiiaaGreatDoorTie
import Derived.OpenShut
import Derived.ProofKit
import Derived.JoinedCond
import Derived.LaidLaws
import Derived.LaidMore
import Derived.Lay
import Derived.MakeChecks
import Derived.Lib.LaidTab
import Derived.Stop.Joined
import Derived.Stop.LaidErr
import Derived.Deep.DeepHandedRow
import Derived.Deep.DeepWitnessRowRef
import Derived.SevenTiedAt
import Derived.Shelf.Vars
import Derived.ChangeMaps5
section
namespace Go.Proofs.YtalbllijahiiiaaGreatDoor
open Go.RowKit Go.Mine Go.Mine.Desk

theorem Answered_any (g : G) (n : Int) (hg : g.right) (hn : near n) (gK xa gb : Int) (gao : Option Addr) (gn gc : Nat) (s : Bytes) (hs : s.length ≤ 1100000) (w : World) (hv : GenAt w (.agg #[.int .i64 gK, .int .i64 xa, .int .i64 gb, .slice gao gn gc]) g) :
    Calls Tryz.prog 8 #[.agg #[.int .i64 gK, .int .i64 xa, .int .i64 gb, .slice gao gn gc, .int .i64 n], str s] w (AnsPost (lineR (g, n) s) w) := by
  by_cases hc : s = kCount
  · exact ans_count g n hg hn gK xa gb gao gn gc s hs hc w hv
  cases hl : cuts 32 s with
  | nil => exact absurd hl (cuts_ne 32 s)
  | cons x0 args =>
    by_cases h1 : args.length = 1
    · obtain ⟨x, rfl⟩ : ∃ x, args = [x] := by
        match args, h1 with
        | [x], _ => exact ⟨x, rfl⟩
      by_cases k1 : x0 = kShow
      · exact ans_show g n hg hn gK xa gb gao gn gc s hs x0 x hl k1 w hv
      by_cases k2 : x0 = kLess
      · exact ans_less g n hg hn gK xa gb gao gn gc s hs x0 x hl k2 w hv
      by_cases hbd : ∃ p ∈ [x], wordV p = none
      · exact ans_bad1 g n hg hn gK xa gb gao gn gc s hs x0 [x] hl hc (fun _ => ⟨k1, k2⟩) hbd h1 w hv
      have hall : ∀ p ∈ [x], wordV p ≠ none := fun p hp h => hbd ⟨p, hp, h⟩
      by_cases k3 : x0 = kLimit
      · exact ans_limit g n hg hn gK xa gb gao gn gc s hs x0 x hl k3 hc hall w hv
      by_cases k4 : x0 = kNth
      · exact ans_nth g n hg hn gK xa gb gao gn gc s hs x0 x hl k4 hc hall w hv
      exact ans_none1 g n hg hn gK xa gb gao gn gc s hs x0 [x] hl hc (fun _ => ⟨k3, k4, k1, k2⟩) (fun h => by simp at h) (fun h => by simp at h) hall h1 w hv
    · by_cases hbd : ∃ p ∈ args, wordV p = none
      · exact ans_bad2 g n hg hn gK xa gb gao gn gc s hs x0 args hl hc (fun h => absurd h h1) hbd h1 w hv
      have hall : ∀ p ∈ args, wordV p ≠ none := fun p hp h => hbd ⟨p, hp, h⟩
      by_cases h2 : args.length = 2 ∧ (x0 = kInt ∨ x0 = kRun)
      · obtain ⟨h2, hk⟩ := h2
        obtain ⟨x, y, rfl⟩ : ∃ x y, args = [x, y] := by
          match args, h2 with
          | [x, y], _ => exact ⟨x, y, rfl⟩
        rcases hk with hk | hk
        · exact ans_int g n hg hn gK xa gb gao gn gc s hs x0 x y hl hk hc hall w hv
        · exact ans_run g n hg hn gK xa gb gao gn gc s hs x0 x y hl hk hc hall w hv
      by_cases h3 : args.length = 3 ∧ x0 = kMany
      · obtain ⟨h3, hk⟩ := h3
        obtain ⟨x, y, u, rfl⟩ : ∃ x y u, args = [x, y, u] := by
          match args, h3 with
          | [x, y, u], _ => exact ⟨x, y, u, rfl⟩
        exact ans_many g n hg hn gK xa gb gao gn gc s hs x0 x y u hl hk hc hall w hv
      exact ans_none2 g n hg hn gK xa gb gao gn gc s hs x0 args hl hc (fun h => absurd h h1) (fun h => ⟨fun hk => h2 ⟨h, .inl hk⟩, fun hk => h2 ⟨h, .inr hk⟩⟩) (fun h hk => h3 ⟨h, hk⟩) hall h1 w hv
end Go.Proofs.YtalbllijahiiiaaGreatDoor
end

section
namespace Go.Proofs.YtalbllijahiiiaaGreatDoor
open Go.RowKit Go.Mine Go.Mine.Desk

theorem endSt_snoc : ∀ (st : St) (a : List Bytes) (x : Bytes), endSt st (a ++ [x]) = (lineR (endSt st a) x).2
  | _, [], _ => rfl
  | st, y :: a, x => by
    rw [List.cons_append, endSt, endSt_snoc _ a x]
    rfl
structure DJ (w : World) (s : Bytes) (q Db k : Nat) (ov : Value) (gK xa gb : Int) (gao : Option Addr) (gn gc : Nat) (g : G) (n : Int) (W : World) : Prop where
  below : Below w.heap.size w W
  blk : Blk W Db 30 #[.int .i64 gK, .int .i64 xa, .int .i64 gb, .slice gao gn gc, .int .i64 n]
  state : (g, n) = endSt st0 ((linesOf s).take k)
  gen : GenAt W (.agg #[.int .i64 gK, .int .i64 xa, .int .i64 gb, .slice gao gn gc]) g
  right : g.right
  near : Go.Mine.Desk.near n
  want : W.ownsRow (Db + 1) 9 1 ov k ((answers st0 ((linesOf s).take k)).map str)
  line : ∀ j, j < (linesOf s).length → W.cell? ⟨q, j, none⟩ = some (str ((linesOf s).getD j []))
  low : q < Db
theorem DJ.next {w : World} {s : Bytes} {q Db k : Nat} {ov : Value} {gK xa gb : Int} {gao : Option Addr} {gn gc : Nat} {g : G} {n : Int} {W W2 W3 W4 : World} (h : DJ w s q Db k ov gK xa gb gao gn gc g n W) (hDb : w.heap.size ≤ Db) {p : Bytes} (hp : (linesOf s)[k]? = some p) {pp : Bytes × St} (hpp : lineR (g, n) p = pp)
    {aK a1 a2 : Int} {a3 : Option Addr} {a4 a5 : Nat} {g7 cap : Nat} {cs : Array Value} (hb : Below W.heap.size W W2) (hgen : GenAt W2 (.agg #[.int .i64 aK, .int .i64 a1, .int .i64 a2, .slice a3 a4 a5]) pp.2.1) (hr : pp.2.1.right) (hn : Go.Mine.Desk.near pp.2.2)
    (hW : W3 = ((((W2.setCell ⟨Db, 0, none⟩ (.int .i64 aK)).setCell ⟨Db, 1, none⟩ (.int .i64 a1)).setCell ⟨Db, 2, none⟩ (.int .i64 a2)).setCell ⟨Db, 3, none⟩ (.slice a3 a4 a5)).setCell ⟨Db, 4, none⟩ (.int .i64 pp.2.2))
    (hg : (W3.alloc (.cells cs 9)).grownBy W4 ov.ownBlock) (hown : W4.ownsRow (Db + 1) 9 1 (.slice (some ⟨g7, 0, none⟩) (k + 1) cap) (k + 1) (((answers st0 ((linesOf s).take k)).map str) ++ [str pp.1])) :
    DJ w s q Db (k + 1) (.slice (some ⟨g7, 0, none⟩) (k + 1) cap) aK a1 a2 a3 a4 a5 pp.2.1 pp.2.2 W4 := by
  have e : (linesOf s).take (k + 1) = (linesOf s).take k ++ [p] := by rw [List.take_add_one, hp]; rfl
  have hdl := h.blk.lt
  have hsz := hb.size
  have hs3 : ∀ b, b ≠ Db → W3.heap[b]? = W2.heap[b]? := fun b hb' => by
    rw [hW]
    repeat (rw [Below.heap_setCell _ _ _ _ hb'])
  have hz3 : W3.heap.size = W2.heap.size := by rw [hW]; simp [World.setCell]
  have hrow := h.want.lt
  have h4 : ∀ b, b < W2.heap.size → ov.ownBlock ≠ some b → W4.heap[b]? = W3.heap[b]? := fun b hb' hne => by
    rw [hg.block b (by simp; omega) (fun e' => hne e'.symm), Below.heap_alloc W3 _ b (by omega)]
  have hk2 : Blk W2 Db _ _ := h.blk.below hb
  have hk3 : Blk W3 Db 30 #[.int .i64 aK, .int .i64 a1, .int .i64 a2, .slice a3 a4 a5, .int .i64 pp.2.2] := by
    rw [hW]
    have k := ((((hk2.set 0 (.int .i64 aK)).set 1 (.int .i64 a1)).set 2 (.int .i64 a2)).set 3 (.slice a3 a4 a5)).set 4 (.int .i64 pp.2.2)
    simpa using k
  have hb3 : Below w.heap.size w W3 := by
    rw [hW]
    iterate 5 (refine Below.setCell ?_ (by show w.heap.size ≤ Db; exact hDb) _)
    exact h.below.trans (hb.mono h.below.size)
  have hlow : ∀ b, b ≤ Db → ov.ownBlock ≠ some b := fun b hb' e' => by have := (hrow b e').1; omega
  refine ⟨(hb3.alloc hb3.size (.cells cs 9)).grown hg (by have := hb3.size; simp; omega) (fun b e' => by have := (hrow b e').1; omega), (h4 Db (by omega) (hlow Db (Nat.le_refl _))).trans hk3, ?_, ?_, hr, hn, ?_, fun j hj => ?_, h.low⟩
  · rw [e, endSt_snoc, ← h.state, hpp]
  · refine hgen.kept fun b x y hs => ?_
    have m1 : b ≠ Db := sub_far hs hk2 (by decide)
    have m2 : ov.ownBlock ≠ some b := fun e' => by
      have ho2 := owns_below h.want hb
      exact owns_kind ho2 (show Blk W2 b 28 _ from hs) (by decide) e'.symm
    exact (h4 b hs.lt m2).trans (hs3 b m1)
  · rw [e, answers_append, List.map_append, ← h.state]
    show W4.ownsRow _ _ _ _ _ (_ ++ [str (lineR (g, n) p).1])
    rw [hpp]
    exact hown
  · have hc := h.line j hj
    have hq := World.block_lt_of_cell? W _ hc
    have hq2 : q < W.heap.size := hq
    have hql := h.low
    rw [← hc, ← hb.cell hq]
    refine World.cell?_of_block ?_
    show W4.heap[q]? = W2.heap[q]?
    exact (h4 q (by omega) (hlow q (by omega))).trans (hs3 q (by omega))
set_option maxRecDepth 100000 in
set_option maxHeartbeats 16000000 in
theorem answers_walk (s : Bytes) (hs : s.length ≤ 1100000) (w : World) (hg : Gl w) :
    Calls Tryz.prog 3 #[str s] w fun e w' => e = .returned (.bool true) ∧ Below w.heap.size w w' := by
  have HR0 := Lib.hid (drun_script factS (by decide) w hg)
  have HG := Lib.hid hg
  have HS := Lib.hid hs
  clear hg hs
  go_enter Tryz.func3, Tryz.ntmps3
  go_wp2_with fail
  refine HR0.out.mono ?_
  clear HR0
  rintro e w1 ⟨⟨u, rfl, hown⟩, hb1⟩
  rw [fact_run] at hown
  obtain ⟨uo, uc, rfl⟩ := owns_shape hown
  have H1 := Lib.hid (And.intro hb1 (StrsAt.of_owns hown))
  clear hb1 hown
  go_wp2_with fail
  have hb2 : Below w1.heap.size w1 (w1.alloc (.cells #[str [49, 48], str [55]] 9)) := (Below.refl _ _).alloc (Nat.le_refl _) _
  refine (Texts_any [[49, 48], [55]] [[49, 48], [55]] uo (some ⟨w1.heap.size, 0, none⟩) uc 2 _ (H1.out.2.on hb2) (StrsAt.of_owns (World.ownsRow_lit w1 (base := w1.heap.size) #[str [49, 48], str [55]] 2 (Nat.le_refl _) (by unfold maxLen; omega) rfl)) (by unfold maxLen; simp)).mono ?_
  rintro e w2 ⟨rfl, n2, hw2⟩
  have hb3 : Below w.heap.size w w2 := by rw [hw2]; exact below_drewN (H1.out.1.trans (hb2.mono H1.out.1.size)) _
  have H2 := Lib.hid hb3
  clear hb2 hb3 hw2
  rw [show decide ([[49, 48], [55]] = ([[49, 48], [55]] : List Bytes)) = true by decide]
  have HCU := Lib.hid (Cut_nl s HS.out w2)
  obtain ⟨m, hm⟩ : ∃ m, (cuts 10 s).length = m := ⟨_, rfl⟩
  have hm1 : 1 ≤ m := by rw [← hm]; exact List.length_pos_iff.2 (cuts_ne 10 s)
  have hm2 : m ≤ 1100001 := by have h := cuts_length 10 s; have := HS.out; omega
  rw [hm] at HCU
  go_wp2_with fail
  refine HCU.out.mono ?_
  clear HCU
  rintro e w3 ⟨⟨u, rfl, hown⟩, hb3⟩
  have H3 := Lib.hid (H2.out.trans (hb3.mono H2.out.size))
  obtain ⟨ro, rc, rfl⟩ := owns_shape hown
  have hrc := own_cap2 hown
  obtain ⟨q, rfl⟩ : ∃ q, ro = some ⟨q, 0, none⟩ := by
    rcases hown.2 with ⟨_, h0⟩ | ⟨q, cap, cur, h1, _⟩
    · omega
    · simp only [Value.slice.injEq] at h1
      exact ⟨q, h1.1⟩
  have HQL := Lib.hid (show q < w3.heap.size from (hown.lt q rfl).2)
  obtain ⟨la, hla⟩ : ∃ la, (cuts 10 s).getLast (cuts_ne 10 s) = la := ⟨_, rfl⟩
  have hcellj : ∀ j, j < m → w3.cell? ⟨q, j, none⟩ = some (str ((cuts 10 s).getD j [])) := fun j hj => by
    rw [hown.cellAt j (by omega)]
    have hj' : j < (cuts 10 s).length := by rw [hm]; exact hj
    simp only [List.getElem?_map, List.getD, List.getElem?_eq_getElem hj', Option.map_some, Option.getD_some]
  have clast : w3.cell? ⟨q, m - 1, none⟩ = some (str la) := by
    have h' : m - 1 < (cuts 10 s).length := by omega
    have e : (cuts 10 s).getD (m - 1) [] = la := by
      rw [List.getD, List.getElem?_eq_getElem h', Option.getD_some, ← hla, List.getLast_eq_getElem]
      congr 1
      omega
    rw [hcellj (m - 1) (by omega), e]
  have HLINE := Lib.hid (show ∀ j, j < (linesOf s).length → w3.cell? ⟨q, j, none⟩ = some (str ((linesOf s).getD j [])) from fun j hj => by
    rw [hcellj j (by have := linesOf_len s; omega), linesOf_get s j hj])
  have HLM := Lib.hid (And.intro hm hla)
  have hmi : IntKind.i64.wrap ((m : Int) - 1) = ((m - 1 : Nat) : Int) := by rw [IntWalk.i64_in _ (by omega)]; omega
  have hmw : wrap64 ((m : Int) - 1) = ((m - 1 : Nat) : Int) := by unfold wrap64; omega
  have hmi1 : ((m - 1 : Nat) : Int) < (m : Int) := by omega
  have hmi0 : (0 : Int) ≤ ((m - 1 : Nat) : Int) := by omega
  clear hown hb3 hm hla hcellj
  have hsl := fun L h => head_slice q 0 m rc L h
  obtain ⟨be, hbe⟩ : ∃ be, List.isEmpty la = be := ⟨_, rfl⟩
  obtain ⟨L0, hL0⟩ : ∃ L0, m - 1 = L0 := ⟨_, rfl⟩
  rw [hL0] at hmi hmw hmi1 hmi0 clast
  have hsl0 := hsl L0 (by omega)
  clear hsl
  go_upto_if 22 with fail
  have HBE := Lib.hid (And.intro hbe hL0)
  clear hbe hL0
  go_cut [4] from 23 to 28 (fun lv wx => ∃ L : Nat, lv = .slice (some ⟨q, 0, none⟩) L rc ∧ RowKit.Hid (L = (linesOf s).length ∧ L ≤ m ∧ wx = w3))
  case first =>
    cases be with
    | true =>
      have hle : la = [] := by cases la with | nil => rfl | cons _ _ => exact absurd HBE.out.1 (by simp)
      have HL := Lib.hid (show L0 = (linesOf s).length by rw [← HBE.out.2]; unfold linesOf; rw [if_pos (by rw [HLM.out.2]; exact hle), List.length_dropLast, HLM.out.1])
      clear hle
      go_wp2_with fail
      go_meet
      case rel => exact ⟨L0, rfl, Lib.hid ⟨HL.out, by omega, rfl⟩⟩
    | false =>
      have hle : ¬ la = [] := fun h => by rw [h] at HBE; exact absurd HBE.out.1 (by simp)
      have HL := Lib.hid (show m = (linesOf s).length by unfold linesOf; rw [if_neg (by rw [HLM.out.2]; exact hle), HLM.out.1])
      clear hle
      go_wp2_with fail
      go_meet
      case rel => exact ⟨m, rfl, Lib.hid ⟨HL.out, Nat.le_refl _, rfl⟩⟩
  case rest =>
    obtain ⟨L, rfl, HC⟩ := hcut
    have HL := Lib.hid HC.out.1
    have hLL := HC.out.2.1
    have hwc : wc = w3 := HC.out.2.2
    clear hmi hmw hmi1 hmi0 clast hsl0
    rw [hwc]
    clear hwc HC
    have hL2 : L ≤ 1100001 := by omega
    obtain ⟨Db, hDb⟩ : ∃ Db, w3.heap.size = Db := ⟨_, rfl⟩
    obtain ⟨w4, hw4⟩ : ∃ w4, w4 = w3.alloc (.cells #[.int .i64 2, .int .i64 0, .int .i64 9, .slice none 0 0, .int .i64 5] 30) := ⟨_, rfl⟩
    have hb4 : Below w3.heap.size w3 w4 := by rw [hw4]; exact (Below.refl _ _).alloc (Nat.le_refl _) _
    have H4 := Lib.hid (H3.out.trans (hb4.mono H3.out.size))
    have kd4 : Blk w4 Db 30 #[.int .i64 2, .int .i64 0, .int .i64 9, .slice none 0 0, .int .i64 5] := by rw [hw4, ← hDb]; exact Blk.new _ _ _
    have hqd : q < Db := by rw [← hDb]; exact HQL.out
    have hDw : w.heap.size ≤ Db := by rw [← hDb]; exact H3.out.size
    have HJ0 := Lib.hid (show DJ w s q Db 0 (.slice none 0 0) 2 0 9 none 0 0 (.int 0 9) 5 w4 from ⟨H4.out, kd4, rfl, rfl, by decide, by unfold near; omega, World.ownsRow_nil _ _ _ _, fun j hj => (hb4.cell HQL.out).trans (HLINE.out j hj), hqd⟩)
    have HW4 := Lib.hid hw4
    have HGL := Lib.hid (HG.out.on H4.out)
    have hz4 : Db < w4.heap.size := kd4.lt
    clear hw4 hb4 kd4
    go_upto_region 7 with fail
    rw [← HW4.out]
    by_cases h100 : 100 < L
    · have d : decide (100 < ((L : Nat) : Int)) = true := decide_eq_true (by omega)
      have HR := Lib.hid (show runV s = [errName 4] by unfold runV; rw [if_pos (by rw [← HL.out]; exact h100)])
      obtain ⟨w5, hw5⟩ : ∃ w5, w5 = w4.alloc (.cells #[str (errName 4)] 9) := ⟨_, rfl⟩
      have hb5 : Below w4.heap.size w4 w5 := by rw [hw5]; exact (Below.refl _ _).alloc (Nat.le_refl _) _
      have ho5 : StrsAt w5 (some ⟨w4.heap.size, 0, none⟩) [errName 4] := by
        have h := World.ownsRow_lit (base := w4.heap.size) (e := 9) (size := 1) w4 #[str (errName 4)] 1 (Nat.le_refl _) (by unfold maxLen; omega) rfl
        rw [hw5]
        exact StrsAt.of_owns (n := 1) h
      obtain ⟨F, hF⟩ : ∃ F, w4.heap.size = F := ⟨_, rfl⟩
      rw [hF] at ho5
      have H5 := Lib.hid (H4.out.trans (hb5.mono H4.out.size))
      have HRS := Lib.hid (drun_script s HS.out w5 (HGL.out.on hb5))
      rw [HR.out] at HRS
      have HO5 := Lib.hid ho5
      have HW5 := Lib.hid hw5
      clear hw5 hb5 ho5
      go_upto_region 9 with fail
      rw [show (#[69, 114, 114, 70, 117, 108, 108] : Array UInt8) = (errName 4).toArray from rfl, ← HW5.out]
      go_wp2_with fail
      refine wp_loop_rounds 1 ?_
      rw [rounds_succ]
      go_wp2_with fail
      refine HRS.out.mono ?_
      clear HRS
      rintro e w6 ⟨⟨u, rfl, hown⟩, hb6⟩
      obtain ⟨uo, uc, rfl⟩ := owns_shape hown
      have HT := Lib.hid (Texts_any [errName 4] [errName 4] uo (some ⟨F, 0, none⟩) uc 1 w6 (StrsAt.of_owns hown) (HO5.out.on hb6) (by unfold maxLen; simp))
      rw [show decide ([errName 4] = [errName 4]) = true from decide_eq_true rfl] at HT
      simp only [List.length_cons, List.length_nil, Nat.zero_add] at HT
      have H6 := Lib.hid (H5.out.trans (hb6.mono H5.out.size))
      clear hb6 hown
      go_wp2_with fail
      refine HT.out.mono ?_
      rintro e w7 ⟨rfl, n7, rfl⟩
      go_wp2_with fail
      go_ret
      exact ⟨rfl, below_drewN H6.out _⟩
    · have d : decide (100 < ((L : Nat) : Int)) = false := decide_eq_false (by omega)
      have HR := Lib.hid (show runV s = answers st0 (linesOf s) by unfold runV; rw [if_neg (by rw [← HL.out]; exact h100)])
      go_wp2_with fail
      go_loopg [5, 7, 8, 9] L (fun gq ov iv _ _ wr => ∃ (k : Nat) (gK xa gb : Int) (gao : Option Addr) (gn gc : Nat) (g : G) (n : Int), iv = .int .i64 (k : Int) ∧ k + gq = L ∧ RowKit.Hid (DJ w s q Db k ov gK xa gb gao gn gc g n wr))
      case atStart => exact ⟨0, _, _, _, _, _, _, _, _, rfl, by omega, HJ0⟩
      case round =>
        obtain ⟨k, gK, xa, gb, gao, gn, gc, g, n, rfl, hkg, HJ⟩ := hrel
        obtain ⟨oo, oc, rfl⟩ := owns_shape HJ.out.want
        rcases Nat.eq_zero_or_pos gk with hz | hz
        · obtain rfl : k = L := by omega
          have dr : decide (((k : Nat) : Int) < ((k : Nat) : Int)) = false := decide_eq_false (by omega)
          have hw := HJ.out.want
          rw [HL.out, List.take_of_length_le (Nat.le_refl _), ← HR.out] at hw
          have hlr : (runV s).length = k := by rw [HR.out, answers_len, ← HL.out]
          have HRS := Lib.hid (drun_script s HS.out wr (HG.out.on HJ.out.below))
          rw [hlr] at HRS
          have HWT := Lib.hid (StrsAt.of_owns hw)
          have HLR := Lib.hid hlr
          have HX := Lib.hid HJ.out.below
          clear hw hlr
          go_wp2_with fail
          refine HRS.out.mono ?_
          clear HRS
          rintro e w6 ⟨⟨u, rfl, hown⟩, hb6⟩
          obtain ⟨uo, uc, rfl⟩ := owns_shape hown
          have HT := Lib.hid (Texts_any (runV s) (runV s) uo oo uc oc w6 (StrsAt.of_owns hown) (HWT.out.on hb6) (by rw [HLR.out]; unfold maxLen; omega))
          rw [show decide (runV s = runV s) = true from decide_eq_true rfl, HLR.out] at HT
          have H6 := Lib.hid (HX.out.trans (hb6.mono HX.out.size))
          clear hb6 hown
          go_wp2_with fail
          refine HT.out.mono ?_
          rintro e w7 ⟨rfl, n7, rfl⟩
          go_wp2_with fail
          go_ret
          exact ⟨rfl, below_drewN H6.out _⟩
        · have hkl : k < L := by omega
          have dr : decide ((k : Int) < ((L : Nat) : Int)) = true := decide_eq_true (by omega)
          have hi0' : (0 : Int) ≤ (k : Int) := by omega
          have hi1 : (k : Int) < ((L : Nat) : Int) := by omega
          have hw1 : IntKind.i64.wrap ((k : Int) + 1) = ((k + 1 : Nat) : Int) := by rw [IntWalk.i64_in _ (by omega)]; omega
          obtain ⟨p, hp⟩ : ∃ p, p = (linesOf s).getD k [] := ⟨_, rfl⟩
          have hpe : (linesOf s)[k]? = some p := by rw [hp]; simp [show k < (linesOf s).length by rw [← HL.out]; exact hkl]
          have hcl := HJ.out.line k (by rw [← HL.out]; exact hkl)
          rw [← hp] at hcl
          obtain ⟨pp, hpp⟩ : ∃ pp, lineR (g, n) p = pp := ⟨_, rfl⟩
          have HAN := Lib.hid (fun (W : World) (hb : Below wr.heap.size wr W) => Answered_any g n HJ.out.right HJ.out.near gK xa gb gao gn gc p (Nat.le_trans (linesOf_part s p (List.mem_of_getElem? hpe)) HS.out) W (HJ.out.gen.on hb))
          rw [hpp] at HAN
          have HPP := Lib.hid (And.intro hpe hpp)
          have HSK := Lib.hid (show ∀ w' : World, Below wr.heap.size wr w' → (w'.cell? ⟨Db, 0, none⟩ = some (.int .i64 gK) ∧ w'.cell? ⟨Db, 1, none⟩ = some (.int .i64 xa) ∧ w'.cell? ⟨Db, 2, none⟩ = some (.int .i64 gb) ∧ w'.cell? ⟨Db, 3, none⟩ = some (.slice gao gn gc) ∧ w'.cell? ⟨Db, 4, none⟩ = some (.int .i64 n) ∧ w'.cell? ⟨q, k, none⟩ = some (str p)) from fun w' hb => ⟨(HJ.out.blk.below hb).cell 0, (HJ.out.blk.below hb).cell 1, (HJ.out.blk.below hb).cell 2, (HJ.out.blk.below hb).cell 3, (HJ.out.blk.below hb).cell 4, (hb.cell (World.block_lt_of_cell? wr _ hcl)).trans hcl⟩)
          have c0 : wr.cell? ⟨Db, 0, none⟩ = some (.int .i64 gK) := HJ.out.blk.cell 0
          have c1 : wr.cell? ⟨Db, 1, none⟩ = some (.int .i64 xa) := HJ.out.blk.cell 1
          have c2 : wr.cell? ⟨Db, 2, none⟩ = some (.int .i64 gb) := HJ.out.blk.cell 2
          have c3 : wr.cell? ⟨Db, 3, none⟩ = some (.slice gao gn gc) := HJ.out.blk.cell 3
          have c4 : wr.cell? ⟨Db, 4, none⟩ = some (.int .i64 n) := HJ.out.blk.cell 4
          clear hp hpe hpp
          go_upto_region 13 with fail
          go_cut [8, 9] from 40 to 49 (fun nv av wx => ∃ (Nb : Nat) (aK a1 a2 : Int) (a3 : Option Addr) (a4 a5 : Nat), nv = .pointer (some ⟨Nb, 0, none⟩) ∧ av = str pp.1 ∧ RowKit.Hid (Below wr.heap.size wr wx ∧ Blk wx Nb 30 #[.int .i64 aK, .int .i64 a1, .int .i64 a2, .slice a3 a4 a5, .int .i64 pp.2.2] ∧ GenAt wx (.agg #[.int .i64 aK, .int .i64 a1, .int .i64 a2, .slice a3 a4 a5]) pp.2.1 ∧ pp.2.1.right ∧ near pp.2.2))
          case first =>
            refine wp_region_held_drew (S := fun w' => w'.cell? ⟨Db, 0, none⟩ = some (.int .i64 gK) ∧ w'.cell? ⟨Db, 1, none⟩ = some (.int .i64 xa) ∧ w'.cell? ⟨Db, 2, none⟩ = some (.int .i64 gb) ∧ w'.cell? ⟨Db, 3, none⟩ = some (.slice gao gn gc) ∧ w'.cell? ⟨Db, 4, none⟩ = some (.int .i64 n) ∧ w'.cell? ⟨q, k, none⟩ = some (str p)) (by kernel_rfl) ?hSR5_0 (fun hHeld => ?_)
            case hSR5_0 =>
              exact HSK.out _ ((Below.refl _ _).drew)
            refine wpAnyH_take (i := 0) (v := ?vvR5_0) rfl (by kernel_rfl) (by kernel_rfl) (by kernel_rfl) (fun _ _ _ h => h) (Or.inl ⟨by rfl, ?hyR5_0⟩) (by assumption) ?restR5_0
            case hyR5_0 => ((intro w hSw; (try dsimp only at hSw); go_simp) <;> with_reducible rfl)
            try simp only [sA, sC, Act.put, sD, sE, sF]
            refine wpAnyH_take (i := 1) (v := ?vvR5_1) rfl (by kernel_rfl) (by kernel_rfl) (by kernel_rfl) (fun _ _ _ h => h) (Or.inl ⟨by rfl, ?hyR5_1⟩) (by assumption) ?restR5_1
            case hyR5_1 => ((intro w hSw; (try dsimp only at hSw); go_simp) <;> with_reducible rfl)
            try simp only [sA, sB, sC, Act.put, sD, sE, sF]
            refine wpAnyH_take (i := 2) (v := ?vvR5_2) rfl (by kernel_rfl) (by kernel_rfl) (by kernel_rfl) (fun _ _ _ h => h) (Or.inl ⟨by rfl, ?hyR5_2⟩) (by assumption) ?restR5_2
            case hyR5_2 => ((intro w hSw; (try dsimp only at hSw); go_simp) <;> with_reducible rfl)
            try simp only [sA, sB, sC, Act.put, sD, sE, sF]
            refine wpAnyH_take (i := 3) (v := ?vvR5_3) rfl (by kernel_rfl) (by kernel_rfl) (by kernel_rfl) (fun _ _ _ h => h) (Or.inl ⟨by rfl, ?hyR5_3⟩) (by assumption) ?restR5_3
            case hyR5_3 => ((intro w hSw; (try dsimp only at hSw); go_simp) <;> with_reducible rfl)
            try simp only [sA, sB, sC, Act.put, sD, sE, sF]
            refine wpAnyH_take (i := 4) (v := ?vvR5_4) rfl (by kernel_rfl) (by kernel_rfl) (by kernel_rfl) (fun _ _ _ h => h) (Or.inl ⟨by rfl, ?hyR5_4⟩) (by assumption) ?restR5_4
            case hyR5_4 => ((intro w hSw; (try dsimp only at hSw); go_simp) <;> with_reducible rfl)
            try simp only [sA, sB, sC, Act.put, sD, sE, sF]
            refine wpAnyH_ready (rs := [5, 9]) (by kernel_rfl) (by simp) ?_
            refine AllReadyH.cons rfl (fun K hK => ?_) (AllReadyH.cons rfl (fun K hK => ?_) AllReadyH.nil)
            · go_simp
              go_at_call 8
              refine (HAN.out wr.drew ((Below.refl _ wr).drew)).mono ?_
              rintro e w5 ⟨hb5, v5, rfl, aK, a1, a2, a3, a4, a5, rfl, hgen5, hr5, hn5⟩
              have HB5 := Lib.hid (show Below wr.heap.size wr w5 from ((Below.refl _ wr).drew).trans hb5)
              clear hb5
              refine hK.out _ _ ?hSB1 (fun hHeld => ?_)
              case hSB1 => exact HSK.out _ HB5.out
              clear hK K
              try simp only [sA, sB, sC, Act.put, sD, sE, sF]
              refine wpAnyH_take (i := 6) (v := ?vvR2_6) rfl (by kernel_rfl) (by kernel_rfl) (by kernel_rfl) (fun _ _ _ h => h) (Or.inl ⟨by rfl, ?hyR2_6⟩) (by assumption) ?restR2_6
              case hyR2_6 => ((intro w hSw; (try dsimp only at hSw); go_simp) <;> with_reducible rfl)
              try simp only [sA, sB, sC, Act.put, sD, sE, sF]
              refine wpAnyH_take (i := 7) (v := ?vvR2_7) rfl (by kernel_rfl) (by kernel_rfl) (by kernel_rfl) (fun _ _ _ h => h) (Or.inl ⟨by rfl, ?hyR2_7⟩) (by assumption) ?restR2_7
              case hyR2_7 => ((intro w hSw; (try dsimp only at hSw); go_simp) <;> with_reducible rfl)
              try simp only [sA, sB, sC, Act.put, sD, sE, sF]
              refine wpAnyH_take (i := 8) (v := ?vvR2_8) rfl (by kernel_rfl) (by kernel_rfl) (by kernel_rfl) (fun _ _ _ h => h) (Or.inl ⟨by rfl, ?hyR2_8⟩) (by assumption) ?restR2_8
              case hyR2_8 => ((intro w hSw; (try dsimp only at hSw); go_simp) <;> with_reducible rfl)
              try simp only [sA, sB, sC, Act.put, sD, sE, sF]
              refine wpAnyH_ready (rs := [9]) (by kernel_rfl) (by simp) ?_
              refine AllReadyH.cons rfl (fun K hK => ?_) AllReadyH.nil
              go_simp
              refine hK.out _ _ ?hSR2_9 (fun hHeld => ?_)
              case hSR2_9 => first | exact HSK.out _ (HB5.out.alloc HB5.out.size _) | go_keep
              clear hK K
              try simp only [sA, sB, sC, Act.put, sD, sE, sF]
              refine wpAnyH_ready (rs := [10]) (by kernel_rfl) (by simp) ?_
              refine AllReadyH.cons rfl (fun K hK => ?_) AllReadyH.nil
              go_simp
              refine hK.out _ _ ?hSR2_10 (fun hHeld => ?_)
              case hSR2_10 => first | exact HSK.out _ (HB5.out.alloc HB5.out.size _) | go_keep
              clear hK K
              try simp only [sA, sB, sC, Act.put, sD, sE, sF]
              refine wpAnyH_take (i := 11) (v := ?vvR2_11) rfl (by kernel_rfl) (by kernel_rfl) (by kernel_rfl) (fun _ _ _ h => h) (Or.inl ⟨by rfl, ?hyR2_11⟩) (by assumption) ?restR2_11
              case hyR2_11 => ((intro w hSw; (try dsimp only at hSw); go_simp) <;> with_reducible rfl)
              try simp only [sA, sB, sC, Act.put, sD, sE, sF]
              refine wpAnyH_done (by kernel_rfl) ?_ _
              go_wp2_with fail
              go_meet
              case rel => exact ⟨w5.heap.size, aK, a1, a2, a3, a4, a5, rfl, rfl, Lib.hid ⟨HB5.out.alloc HB5.out.size _, Blk.new _ _ _, hgen5.on ((Below.refl _ _).alloc (Nat.le_refl _) _), hr5, hn5⟩⟩
            · go_simp
              refine hK.out _ _ ?hSB3 (fun hHeld => ?_)
              case hSB3 => exact HSK.out _ (by first | exact ((Below.refl _ wr).drew).alloc (Nat.le_refl _) _ | exact ((Below.refl _ wr).alloc (Nat.le_refl _) _).drew)
              clear hK K
              try simp only [sA, sB, sC, Act.put, sD, sE, sF]
              refine wpAnyH_ready (rs := [5]) (by kernel_rfl) (by simp) ?_
              refine AllReadyH.cons rfl (fun K hK => ?_) AllReadyH.nil
              go_simp
              go_at_call 8
              refine (HAN.out _ (by first | exact ((Below.refl _ wr).drew).alloc (Nat.le_refl _) _ | exact ((Below.refl _ wr).alloc (Nat.le_refl _) _).drew)).mono ?_
              rintro e w5 ⟨hb5, v5, rfl, aK, a1, a2, a3, a4, a5, rfl, hgen5, hr5, hn5⟩
              have HB5 := Lib.hid (show Below wr.heap.size wr w5 from Below.trans (by first | exact ((Below.refl _ wr).drew).alloc (Nat.le_refl _) _ | exact ((Below.refl _ wr).alloc (Nat.le_refl _) _).drew) (hb5.mono (by simp)))
              have HK5 := Lib.hid (show Blk w5 wr.heap.size 30 #[.int .i64 0, .int .i64 0, .int .i64 0, .slice none 0 0, .int .i64 0] from Blk.below (by first | exact Blk.new wr 30 #[.int .i64 0, .int .i64 0, .int .i64 0, .slice none 0 0, .int .i64 0] | exact (Blk.new wr 30 #[.int .i64 0, .int .i64 0, .int .i64 0, .slice none 0 0, .int .i64 0]).drew) hb5)
              clear hb5
              have u0 : w5.cell? ⟨wr.heap.size, 0, none⟩ = some (.int .i64 0) := HK5.out.cell 0
              have u1 : w5.cell? ⟨wr.heap.size, 1, none⟩ = some (.int .i64 0) := HK5.out.cell 1
              have u2 : w5.cell? ⟨wr.heap.size, 2, none⟩ = some (.int .i64 0) := HK5.out.cell 2
              have u3 : w5.cell? ⟨wr.heap.size, 3, none⟩ = some (.slice none 0 0) := HK5.out.cell 3
              have u4 : w5.cell? ⟨wr.heap.size, 4, none⟩ = some (.int .i64 0) := HK5.out.cell 4
              have uf0 : w5.frozen? ⟨wr.heap.size, 0, none⟩ = false := HK5.out.froz 0
              have uf1 : w5.frozen? ⟨wr.heap.size, 1, none⟩ = false := HK5.out.froz 1
              have uf2 : w5.frozen? ⟨wr.heap.size, 2, none⟩ = false := HK5.out.froz 2
              have uf3 : w5.frozen? ⟨wr.heap.size, 3, none⟩ = false := HK5.out.froz 3
              have uf4 : w5.frozen? ⟨wr.heap.size, 4, none⟩ = false := HK5.out.froz 4
              refine hK.out _ _ ?hSR4_5 (fun hHeld => ?_)
              case hSR4_5 => exact HSK.out _ HB5.out
              clear hK K
              try simp only [sA, sB, sC, Act.put, sD, sE, sF]
              refine wpAnyH_take (i := 6) (v := ?vvR4_6) rfl (by kernel_rfl) (by kernel_rfl) (by kernel_rfl) (fun _ _ _ h => h) (Or.inl ⟨by rfl, ?hyR4_6⟩) (by assumption) ?restR4_6
              case hyR4_6 => ((intro w hSw; (try dsimp only at hSw); go_simp) <;> with_reducible rfl)
              try simp only [sA, sB, sC, Act.put, sD, sE, sF]
              refine wpAnyH_take (i := 7) (v := ?vvR4_7) rfl (by kernel_rfl) (by kernel_rfl) (by kernel_rfl) (fun _ _ _ h => h) (Or.inl ⟨by rfl, ?hyR4_7⟩) (by assumption) ?restR4_7
              case hyR4_7 => ((intro w hSw; (try dsimp only at hSw); go_simp) <;> with_reducible rfl)
              try simp only [sA, sB, sC, Act.put, sD, sE, sF]
              refine wpAnyH_take (i := 8) (v := ?vvR4_8) rfl (by kernel_rfl) (by kernel_rfl) (by kernel_rfl) (fun _ _ _ h => h) (Or.inl ⟨by rfl, ?hyR4_8⟩) (by assumption) ?restR4_8
              case hyR4_8 => ((intro w hSw; (try dsimp only at hSw); go_simp) <;> with_reducible rfl)
              try simp only [sA, sB, sC, Act.put, sD, sE, sF]
              refine wpAnyH_ready (rs := [10]) (by kernel_rfl) (by simp) ?_
              refine AllReadyH.cons rfl (fun K hK => ?_) AllReadyH.nil
              go_simp
              refine hK.out _ _ ?hSR4_10 (fun hHeld => ?_)
              case hSR4_10 => exact HSK.out _ (by
                iterate 5 (refine Below.setCell ?_ (by show wr.heap.size ≤ wr.heap.size; exact Nat.le_refl _) _)
                exact HB5.out)
              clear hK K
              try simp only [sA, sB, sC, Act.put, sD, sE, sF]
              refine wpAnyH_take (i := 11) (v := ?vvR4_11) rfl (by kernel_rfl) (by kernel_rfl) (by kernel_rfl) (fun _ _ _ h => h) (Or.inl ⟨by rfl, ?hyR4_11⟩) (by assumption) ?restR4_11
              case hyR4_11 => ((intro w hSw; (try dsimp only at hSw); go_simp) <;> with_reducible rfl)
              try simp only [sA, sB, sC, Act.put, sD, sE, sF]
              refine wpAnyH_done (by kernel_rfl) ?_ _
              have hfb : Below wr.heap.size wr (((((w5.setCell ⟨wr.heap.size, 0, none⟩ (.int .i64 aK)).setCell ⟨wr.heap.size, 1, none⟩ (.int .i64 a1)).setCell ⟨wr.heap.size, 2, none⟩ (.int .i64 a2)).setCell ⟨wr.heap.size, 3, none⟩ (.slice a3 a4 a5)).setCell ⟨wr.heap.size, 4, none⟩ (.int .i64 pp.2.2)) := by
                iterate 5 (refine Below.setCell ?_ (by show wr.heap.size ≤ wr.heap.size; exact Nat.le_refl _) _)
                exact HB5.out
              have hfk : Blk (((((w5.setCell ⟨wr.heap.size, 0, none⟩ (.int .i64 aK)).setCell ⟨wr.heap.size, 1, none⟩ (.int .i64 a1)).setCell ⟨wr.heap.size, 2, none⟩ (.int .i64 a2)).setCell ⟨wr.heap.size, 3, none⟩ (.slice a3 a4 a5)).setCell ⟨wr.heap.size, 4, none⟩ (.int .i64 pp.2.2)) wr.heap.size 30 #[.int .i64 aK, .int .i64 a1, .int .i64 a2, .slice a3 a4 a5, .int .i64 pp.2.2] := by
                have KR := HK5.out
                simpa using ((((KR.set 0 (.int .i64 aK)).set 1 (.int .i64 a1)).set 2 (.int .i64 a2)).set 3 (.slice a3 a4 a5)).set 4 (.int .i64 pp.2.2)
              have hfg : GenAt (((((w5.setCell ⟨wr.heap.size, 0, none⟩ (.int .i64 aK)).setCell ⟨wr.heap.size, 1, none⟩ (.int .i64 a1)).setCell ⟨wr.heap.size, 2, none⟩ (.int .i64 a2)).setCell ⟨wr.heap.size, 3, none⟩ (.slice a3 a4 a5)).setCell ⟨wr.heap.size, 4, none⟩ (.int .i64 pp.2.2)) (.agg #[.int .i64 aK, .int .i64 a1, .int .i64 a2, .slice a3 a4 a5]) pp.2.1 := hgen5.kept fun b x y hs => by
                have m1 : b ≠ wr.heap.size := sub_far hs HK5.out (by decide)
                repeat (rw [Below.heap_setCell _ _ _ _ m1])
              go_wp2_with fail
              go_meet
              case rel => exact ⟨wr.heap.size, aK, a1, a2, a3, a4, a5, rfl, rfl, Lib.hid ⟨hfb, hfk, hfg, hr5, hn5⟩⟩
          case rest =>
            obtain ⟨Nb, aK, a1, a2, a3, a4, a5, rfl, rfl, HX⟩ := hcut
            have kd := HJ.out.blk.below HX.out.1
            obtain ⟨w6, hw6⟩ : ∃ w6, w6 = ((((wc.setCell ⟨Db, 0, none⟩ (.int .i64 aK)).setCell ⟨Db, 1, none⟩ (.int .i64 a1)).setCell ⟨Db, 2, none⟩ (.int .i64 a2)).setCell ⟨Db, 3, none⟩ (.slice a3 a4 a5)).setCell ⟨Db, 4, none⟩ (.int .i64 pp.2.2) := ⟨_, rfl⟩
            have hz6 : w6.heap.size = wc.heap.size := by rw [hw6]; simp [World.setCell]
            have hrow6 : w6.ownsRow (Db + 1) 9 1 (.slice oo k oc) k ((answers st0 ((linesOf s).take k)).map str) := by
              have ho := owns_below HJ.out.want HX.out.1
              refine owns_same ho fun b hb => ?_
              have m1 : b ≠ Db := by have := (ho.lt b hb).1; omega
              rw [hw6]
              repeat (rw [Below.heap_setCell _ _ _ _ m1])
            have HROW := Lib.hid hrow6
            have HW6 := Lib.hid hw6
            have hdb6 : Db + 1 ≤ w6.heap.size := by rw [hz6]; exact kd.lt
            obtain ⟨i0, hi0, hz0, hz1, hz2⟩ := info_parts infoStr
            have e0 : wc.cell? ⟨Nb, 0, none⟩ = some (.int .i64 aK) := HX.out.2.1.cell 0
            have e1 : wc.cell? ⟨Nb, 1, none⟩ = some (.int .i64 a1) := HX.out.2.1.cell 1
            have e2 : wc.cell? ⟨Nb, 2, none⟩ = some (.int .i64 a2) := HX.out.2.1.cell 2
            have e3 : wc.cell? ⟨Nb, 3, none⟩ = some (.slice a3 a4 a5) := HX.out.2.1.cell 3
            have e4 : wc.cell? ⟨Nb, 4, none⟩ = some (.int .i64 pp.2.2) := HX.out.2.1.cell 4
            have u0 : wc.cell? ⟨Db, 0, none⟩ = some (.int .i64 gK) := kd.cell 0
            have u1 : wc.cell? ⟨Db, 1, none⟩ = some (.int .i64 xa) := kd.cell 1
            have u2 : wc.cell? ⟨Db, 2, none⟩ = some (.int .i64 gb) := kd.cell 2
            have u3 : wc.cell? ⟨Db, 3, none⟩ = some (.slice gao gn gc) := kd.cell 3
            have u4 : wc.cell? ⟨Db, 4, none⟩ = some (.int .i64 n) := kd.cell 4
            have uf0 : wc.frozen? ⟨Db, 0, none⟩ = false := kd.froz 0
            have uf1 : wc.frozen? ⟨Db, 1, none⟩ = false := kd.froz 1
            have uf2 : wc.frozen? ⟨Db, 2, none⟩ = false := kd.froz 2
            have uf3 : wc.frozen? ⟨Db, 3, none⟩ = false := kd.froz 3
            have uf4 : wc.frozen? ⟨Db, 4, none⟩ = false := kd.froz 4
            clear hw6 kd hz6 hrow6 c0 c1 c2 c3 c4 hcl
            go_upto_region 15 with fail
            rw [← HW6.out]
            clear e0 e1 e2 e3 e4 u0 u1 u2 u3 u4 uf0 uf1 uf2 uf3 uf4
            have hk100 : k ≤ 100 := by omega
            go_wp2_with (at_builtin; refine wpList_push2 _ rfl _ _ 23 rfl (Db + 1) 9 i0 (.string ⟨#[]⟩) 1 16 Tryz.underlying23 hi0 hz0 hz1 hz2 rfl (by decide) _ _ _ rfl (HROW.out.alloc _) ⟨w6.heap.size, 0, none⟩ 1 [str pp.1] rfl rfl (World.news_of_block (cs := #[str pp.1]) (t := 9) (fr := (0, 0)) (heap_alloc_at _ _ rfl)) (str1 _) (by unfold maxLen; omega) (by omega) (by simp; omega) ?_)
            intro g7 cap w7 hown hgr hat7
            have HJ7 := Lib.hid (HJ.out.next hDw HPP.out.1 HPP.out.2 HX.out.1 HX.out.2.2.1 HX.out.2.2.2.1 HX.out.2.2.2.2 HW6.out hgr hown)
            clear hown hgr hat7
            go_wp2_with fail
            go_roundg (gk - 1)
            case rel => exact ⟨k + 1, _, _, _, _, _, _, _, _, by go_num, by omega, HJ7⟩
            case measure => omega
end Go.Proofs.YtalbllijahiiiaaGreatDoor
end

section
namespace Go.Proofs.YtalbllijahiiiaaGreatDoor
open Go.RowKit Go.Mine Go.Mine.Desk
namespace deskAnswers
open Go.ChangeShapes Go.WideShapes Go.ChangeAt Go.ChangeMaps
theorem own : ownKnob Tryz.prog.godebug = none := by kernel_rfl
theorem laidOut : laidOutB Tryz.prog = true := by kernel_rfl
theorem star : "*" ++ "errors.errorString" = "*errors.errorString" := by decide
theorem rowE (u : TypeId) (h : Tryz.prog.typeName? 3 u = some "*errors.errorString") : u = 206 :=
  typeName_ptr_named (nm := "errors.errorString") (by rw [star]; kernel_rfl) (by kernel_rfl) (by decide) u (by rw [star]; exact h)
set_option maxRecDepth 100000 in
theorem laid_of {W : World} (hL : laidMetH Tryz.prog Rows.deskAnswersUptoRow.laid W) (hsh : W.ShapedOpen Tryz.prog) : Gl W := by
  rw [MakeChecks.laidMetH_plain _ _ _ (by kernel_rfl)] at hL
  have h0 : laidMet Tryz.prog [("math/bits.deBruijn32tab", Rows.laid_math_bits_deBruijn32tab), ("math/bits.deBruijn64tab", Rows.laid_math_bits_deBruijn64tab), ("internal/strconv.uint64pow10", Go.Lib.tabData .u64 Go.Lib.pow10Tab), ("unicode/utf8.acceptRanges", Rows.laid_unicode_utf8_acceptRanges), ("strconv.ErrRange", Rows.laid_strconv_ErrRange), ("strconv.ErrSyntax", Rows.laid_strconv_ErrSyntax), ("assayer/expr.takes", Go.Lib.tabData .i64 takesL), ("unicode/utf8.first", Rows.laid_unicode_utf8_first)] W := hL
  have h1 := Go.laidMet.tail h0
  have h2 := Go.laidMet.tail h1
  have h3 := Go.laidMet.tail h2
  have h4 := Go.laidMet.tail h3
  have h5 := Go.laidMet.tail h4
  have h6 := Go.laidMet.tail h5
  have tp : Go.Lib.TabIs Tryz.prog W "internal/strconv.uint64pow10" .u64 Go.Lib.pow10Tab := Go.Lib.tabIs_of_head (g := 5) (t := 200) (by kernel_rfl) (by kernel_rfl) Tryz.underlying200 Tryz.underlying85 (by kernel_rfl) (by kernel_rfl) h2
  have tk : Go.Lib.TabIs Tryz.prog W "assayer/expr.takes" .i64 takesL := Go.Lib.tabIs_of_head (g := 6) (t := 203) (by kernel_rfl) (by kernel_rfl) Tryz.underlying203 Tryz.underlying3 (by kernel_rfl) (by kernel_rfl) h6
  obtain ⟨a0, s0, hv0, -, -, -⟩ := laid_sentinel (g := 4) (ti := 100) (te := 208) (ts := 9) h4 (by kernel_rfl) (by kernel_rfl) Tryz.underlying100 rowE Tryz.underlying206 Tryz.underlying208 rfl rfl Tryz.underlying9 (by kernel_rfl) (by kernel_rfl)
  obtain ⟨a1, s1, hv1, -, -, -⟩ := laid_sentinel (g := 3) (ti := 100) (te := 208) (ts := 9) h5 (by kernel_rfl) (by kernel_rfl) Tryz.underlying100 rowE Tryz.underlying206 Tryz.underlying208 rfl rfl Tryz.underlying9 (by kernel_rfl) (by kernel_rfl)
  have hmx := Go.Proofs.cell_of_shapedOpen_int (g := 0) (t := 3) (zero := #[.int .i64 0]) (k := .i64) hsh (of_decide_eq_true (by kernel_rfl)) (by kernel_rfl) rfl (by kernel_rfl) (by kernel_rfl) Tryz.underlying3
  refine ⟨?_, hmx, ⟨_, (by have h := World.var?_cell (show Tryz.prog.globalNamed "strconv.ErrSyntax" = some 3 by kernel_rfl) hv1 0; simpa using h), .inr ⟨_, _, rfl⟩⟩, ⟨_, (by have h := World.var?_cell (show Tryz.prog.globalNamed "strconv.ErrRange" = some 4 by kernel_rfl) hv0 0; simpa using h), .inr ⟨_, _, rfl⟩⟩, fun _ => tp, fun k hk => tk.cell (by kernel_rfl) k hk⟩
  obtain ⟨cs, hh, _⟩ := hsh.1 8 _ _ (of_decide_eq_true (by kernel_rfl)) (show ((begin Tryz.prog (fun _ _ => 0) default).world.heap[8]?).bind Obj.row? = some ((List.replicate 64 (Value.int .u8 0)).toArray, 212) by kernel_rfl)
  exact (Array.getElem?_eq_some_iff.1 hh).1

noncomputable def laidWorld (os : Os) : World := World.laidAll Tryz.prog os Rows.deskAnswersUptoRow.laid
theorem laid_met (os : Os) : laidMetH Tryz.prog Rows.deskAnswersUptoRow.laid ((laidWorld os).forCall (fun _ _ => 0) ⟨#[], #[.string ⟨#[]⟩], []⟩).memory := by
  rw [MakeChecks.laidMetH_plain _ _ _ (by kernel_rfl)]
  exact laidMet_laidAll _ (by kernel_rfl) (by kernel_rfl)
theorem reads (os : Os) {H : Type} (enc : TypeId × Value → H) : ∃ places, DataW.whole enc Tryz.prog ((laidWorld os).forCall (fun _ _ => 0) ⟨#[], #[.string ⟨#[]⟩], []⟩).memory Tryz.f3.params.toList Rows.deskAnswersSpec.vars false (#[.string ⟨#[]⟩] : Array Value).toList 8 = some ([.lit (.string [])], [], places) :=
  ⟨[], by kernel_rfl⟩
set_option maxRecDepth 100000 in
theorem contract (H : Type) (enc : TypeId × Value → H) (W : World) (base : Nat) (args : Array Value) (ds gs : List (DataW H)) (before : List MemPlace)
    (hval0 : ∀ (j : Nat) t v, Tryz.f3.params[j]? = some t → args[j]? = some v → Value.okWide Tryz.prog W .any base t v)
    (hW : DataW.Whole enc Tryz.prog Tryz.f3.params.toList Rows.deskAnswersSpec.vars false W args.toList ds gs before) (hk : Rows.uptoSmall H (ds ++ gs) = true) (hL : Gl W) :
    Calls Tryz.prog 3 args W fun e W' => ∃ v, e = .returned v ∧ Rows.deskAnswersSpec.post enc Tryz.prog Tryz.f3 false true false false W args v W' := by
  have hval : ∀ (j : Nat) t v, Tryz.f3.params[j]? = some t → args[j]? = some v → Value.okWide Tryz.prog W .any base t v := hval0
  have hW' := hW
  obtain ⟨p, q, hA0, hV, rfl, hfz, hnd⟩ := hW
  have hA : DataW.TrodAll enc Tryz.prog W 0 (fun _ => true) true Tryz.f3.params.toList args.toList ds p := hA0
  rw [Tryz.params3] at hA hval
  obtain ⟨v0, vs0, d0, ds0, p0, q0, hargs, rfl, rfl, h0, r0⟩ := trodAll_cons hA
  obtain ⟨rfl, rfl, rfl⟩ := trodAll_nil r0
  obtain rfl : args = #[v0] := by cases args; simp_all
  obtain ⟨rfl, rfl⟩ := trodVars_none hV
  obtain ⟨⟨⟨s0⟩⟩, rfl, rfl, rfl, hs0⟩ := open_string Tryz.underlying9 (hval 0 9 v0 rfl rfl) h0
  have hb := of_decide_eq_true hk
  simp only [List.append_nil, Rows.uptoBulkAll, Rows.uptoBulk] at hb
  clear hA0 hval0 hk
  simp only [List.append_nil] at hW'
  refine (answers_walk s0 (by omega) W hL).mono fun e W' ⟨he, bel⟩ => ?_
  subst he
  exact ⟨_, rfl, _, _, _, [], _, [], hW', trodAll_mk1 (shut_bool Tryz.underlying4 _), (trodAll_cons_mk (shut_string Tryz.underlying9 hs0) trodAll_mk0), rfl, bel.frame _, fun h => by cases h⟩

set_option maxRecDepth 100000 in
theorem lifted (os : Os) (started : os.Started) (H : Type) (enc : TypeId × Value → H) (F : Stop.Interp) :
    ReturnsInHanded {} Tryz.checked os 3 .any ((Rows.OpenSpec.upto Rows.deskAnswersSpec).preRow enc Tryz.prog Tryz.f3 Rows.deskAnswersUptoRow.domain false Rows.deskAnswersUptoRow.laid) (((Rows.OpenSpec.upto Rows.deskAnswersSpec).at F).post enc Tryz.prog Tryz.f3 false true false false) := by
  obtain ⟨places, hx⟩ := reads os enc
  refine returnsInHanded_of_row (C := Tryz.checked) (s := Rows.OpenSpec.upto Rows.deskAnswersSpec) own started (by kernel_rfl) Tryz.func3
    (witness_row_at (enc := enc) (C := Tryz.checked) false (laidWorld os) #[.string ⟨#[]⟩] (World.laidAll_os _ _ _) (by kernel_rfl) (by kernel_rfl) (by kernel_rfl)
      (OpenSpec.preRow_of_cond 8 hx (by kernel_rfl) (fun k hk => by cases hk; kernel_rfl) (by kernel_rfl) (laid_met os))) ?_
  intro W base args ds gs before hval hW _ hcond _ hL hsh _
  exact contract H enc W base args ds gs before hval hW (hcond _ rfl) (laid_of hL hsh)
theorem said : Rows.DeskAnswersUptoSaid :=
  OpenClaim.holds_of_cond 3 Tryz.f3 rfl rfl rfl rfl rfl rfl rfl ⟨rfl, rfl, rfl, rfl, rfl⟩ rfl rfl rfl rfl rfl (by kernel_rfl) Tryz.func3 (by kernel_rfl)
    (of_decide_eq_true (by kernel_rfl)) (by unfold Func.isWrapper; first | (rw [if_pos (by decide +kernel)]; kernel_rfl) | (rw [if_neg (by decide +kernel)]; exact ⟨rfl, rfl⟩))
    (fun os started H enc _ F => by rw [OpenClaim.pre_eq_preRow]; exact lifted os started H enc F)
theorem plain (f : FuncId) (fn : Func) (hf : Tryz.pinned.checked.prog.funcNamed "assayer/assayerlaw4.DeskAnswers" = some f) (hfn : Tryz.pinned.checked.prog.funcs[f]? = some fn) :
    true = Tryz.pinned.checked.prog.looks [] ∧ ∀ (j : Nat) t, fn.params[j]? = some t → Tryz.pinned.checked.prog.wantsStandIn t = false := by
  obtain rfl : f = 3 := Option.some.inj ((show Tryz.prog.funcNamed "assayer/assayerlaw4.DeskAnswers" = some 3 by kernel_rfl).symm.trans hf) |>.symm
  obtain rfl : fn = Tryz.f3 := (Option.some.inj (Tryz.func3.symm.trans hfn)).symm
  refine ⟨by kernel_rfl, fun j t ht => ?_⟩
  rw [Tryz.params3] at ht
  have h := Array.mem_of_getElem? ht
  simp only [List.mem_toArray, List.mem_cons, List.not_mem_nil, or_false] at h
  rcases h with rfl
  · exact (show Tryz.prog.wantsStandIn 9 = false by kernel_rfl)
theorem proved : Rows.DeskAnswersUptoCardSaid :=
  Claim7.holds_tied_plain_at .later [] _ _ _ _ said (fun _ h => by cases h) (by kernel_rfl) (fun _ h => by cases h) deskAnswersUpto_row_tie rfl ⟨rfl, rfl⟩ (by kernel_rfl) rfl plain (by kernel_rfl)
#print axioms proved
end deskAnswers
end Go.Proofs.YtalbllijahiiiaaGreatDoor
end
