/- gram.Has. No conditions. -/
import Derived.Test.YtfdjnofkoegbdaaDoorGram1
import Derived.Test.YtfdjnofkoegbdaaDoorGram2
import Derived.Deep.OwnRows
namespace Go.Proofs.YtfdjnofkoegbdaaDoor
open Go.RowKit Go.Mine Go.Mine.Gram

theorem infoT : (Tryd.prog.info? 50).map (fun i => (i.zero.map Value.cells, i.size, i.bytes)) = some (some (Array.replicate 81 (.bool false)), 81, 81) := by kernel_rfl
theorem made_flags (n : Nat) : (madeCells (Array.replicate 81 (Value.bool false)) (n * 81)).toList = (List.replicate (n * 81) false).map Value.bool := by
  apply List.ext_getElem?
  intro j
  simp only [madeCells, Array.toList_map, Array.toList_range, List.getElem?_map, List.map_replicate, List.getElem?_replicate]
  by_cases h : j < n * 81
  · rw [List.getElem?_range h, if_pos h]
    have h81 : j % 81 < 81 := Nat.mod_lt _ (by omega)
    simp [h81]
  · rw [if_neg h, List.getElem?_eq_none (by simpa using h)]
    rfl
theorem TabAt.of_owns {w : World} {base e g n cap : Nat} {c : List Bool} (h : w.ownsRow base e 81 (.slice (some ⟨g, 0, none⟩) n cap) n (c.map Value.bool)) : TabAt w g n c := by
  have hl := h.1
  simp at hl
  refine ⟨hl, fun p hp => ?_⟩
  rw [h.cellAt p (by omega)]
  simp [hp]
/-- What a table's cells hold. -/
def readTab (w : World) (g m : Nat) : List Bool := (List.range m).map fun p => match w.cell? ⟨g, p, none⟩ with | some (.bool b) => b | _ => false
theorem readTab_of {w : World} {g n : Nat} {c : List Bool} (h : TabAt w g n c) : readTab w g (n * 81) = c := by
  obtain ⟨hl, hc⟩ := h
  apply List.ext_getElem?
  intro j
  unfold readTab
  rw [List.getElem?_map]
  by_cases hj : j < n * 81
  · rw [List.getElem?_range hj]
    simp only [Option.map_some]
    rw [hc j (by omega)]
    simp [show j < c.length by omega]
  · rw [List.getElem?_eq_none (by simpa using hj), List.getElem?_eq_none (by omega)]
    rfl
def isTrue : Value → Nat
  | .bool true => 1
  | _ => 0

/-- What Has tells. -/
def HasPost (g : List (List (List Int))) (ws : List Int) (e : Ending) : Prop :=
  (¬ gok g ∧ e = .returned (.tuple #[.bool false, .iface 30 (.int .i64 (gfault g))])) ∨
  (gok g ∧ 8 < ws.length ∧ e = .returned (.tuple #[.bool false, .iface 30 (.int .i64 4)])) ∨
  (gok g ∧ ws.length ≤ 8 ∧ ∃ b, e = .returned (.tuple #[.bool b, .nilIface]) ∧ (b = true ↔ Word g ws))

set_option maxHeartbeats 4000000 in
set_option maxRecDepth 100000 in
theorem has_any (g : List (List (List Int))) (ws : List Int) (go' wo : Option Addr) (gc wc : Nat) (W : World) (hx : GridAt W go' g) (hl : g.length ≤ maxLen) (hw : IntsAt .i64 W wo ws) (hwl : ws.length ≤ maxLen) :
    Calls Tryd.prog 6 #[.slice go' g.length gc, .slice wo ws.length wc] W fun e w' => HasPost g ws e ∧ Below W.heap.size W w' := by
  have HC := Lib.hid (gcheck_any g go' gc W hx hl)
  have HX := Lib.hid hx
  have HWS := Lib.hid (show ∀ w, Below W.heap.size W w → IntsAt .i64 w wo ws from fun w hb => hw.below (Nat.le_refl _) hb)
  unfold maxLen at hl hwl
  clear hx hw
  go_enter Tryd.func6, Tryd.ntmps6
  go_wp2_with fail
  refine HC.out.mono ?_
  clear HC
  rintro e w1 ⟨⟨hok, rfl⟩ | ⟨hno, rfl⟩, rfl⟩
  rotate_left
  · have HNO := Lib.hid hno
    clear hno
    go_wp2_with fail
    go_ret2
    exact ⟨.inl ⟨HNO.out, rfl⟩, Below.refl _ _⟩
  have HOK := Lib.hid hok
  obtain ⟨hn1, hn5, hg⟩ := hok
  have HG := Lib.hid hg
  clear hg
  by_cases h8 : 8 < ws.length
  · go_wp2_with fail
    go_ret2
    exact ⟨.inr (.inl ⟨HOK.out, h8, rfl⟩), Below.refl _ _⟩
  obtain ⟨n, hn⟩ : ∃ n, n = g.length := ⟨_, rfl⟩
  have HN := Lib.hid hn
  rw [← hn] at hn1 hn5 hl ⊢
  obtain ⟨i0, hi0, hzz⟩ := Option.map_eq_some_iff.1 infoT
  simp only [Prod.mk.injEq] at hzz
  obtain ⟨hz, hs, hby⟩ := hzz
  obtain ⟨z, hz1, hz2⟩ := Option.map_eq_some_iff.1 hz
  have hmk : ∀ w, (Instr.makeSlice 47 (.int .i64 (n : Int)) (.int .i64 (n : Int))).run Tryd.prog w = .ok (.slice (some ⟨w.heap.size, 0, none⟩) n n) (w.alloc (.cells (madeCells (Array.replicate 81 (.bool false)) (n * 81)) 50)) := fun w => by
    have hr := run_make (P := Tryd.prog) w 47 50 i0 z Tryd.underlying47 hi0 hz1 .i64 .i64 n n (by omega) (Int.le_refl _) (by rw [hby]; omega) (by omega)
    simp only [Int.toNat_natCast, hs, hz2] at hr
    exact hr
  clear hn hi0 hz hs hby hz1 hz2
  have hb0 : Below W.heap.size W (W.alloc (.cells (madeCells (Array.replicate 81 (.bool false)) (n * 81)) 50)) := (Below.refl _ _).alloc (Nat.le_refl _) _
  have ho0 : (W.alloc (.cells (madeCells (Array.replicate 81 (.bool false)) (n * 81)) 50)).ownsRow W.heap.size 50 81 (.slice (some ⟨W.heap.size, 0, none⟩) n n) n ((List.replicate (n * 81) false).map Value.bool) := by
    have := World.ownsRow_lit (base := W.heap.size) (e := 50) (size := 81) W (madeCells (Array.replicate 81 (.bool false)) (n * 81)) n (Nat.le_refl _) (by unfold maxLen; omega) (by rw [← Array.length_toList, made_flags]; simp)
    rw [made_flags] at this
    exact this
  have HB0 := Lib.hid hb0
  have HO0 := Lib.hid ho0
  obtain ⟨G, hG⟩ : ∃ G, G = W.heap.size := ⟨_, rfl⟩
  clear hb0 ho0
  go_wp2_with fail
  rw [← hG] at HO0 ⊢
  have HGG := Lib.hid hG
  clear hG
  go_loopw [8] (fun cv wr => ∃ (ch : Bool) (c : List Bool), cv = .bool ch ∧ wr.ownsRow G 50 81 (.slice (some ⟨G, 0, none⟩) n n) n (c.map Value.bool) ∧ RowKit.Hid (∀ i a b, Sb c i a b → Mk g ws i a b) ∧ RowKit.Hid (ch = false → Closed g ws (Sb c)) ∧ Below W.heap.size W wr) (fun cv wr => 2 * left (readTab wr G (n * 81)) + isTrue cv)
  case atStart => exact ⟨true, List.replicate (n * 81) false, rfl, HO0.out, Lib.hid (fun i a b h => (sb_none h).elim), Lib.hid (fun h => by cases h), HB0.out⟩
  clear HO0 HB0
  case round =>
    obtain ⟨ch, c0, rfl, ho, hsound, hclosed, hb⟩ := hrel
    cases ch with
    | false =>
      have HW := Lib.hid (word_iff hsound.out (hclosed.out rfl) (by omega))
      have hc0 := (TabAt.of_owns ho).2 ws.length (by have := (TabAt.of_owns ho).1; omega)
      obtain ⟨y, hy⟩ : ∃ y, y = c0.getD ws.length false := ⟨_, rfl⟩
      rw [← hy] at hc0 HW
      clear hsound hclosed ho hy
      go_wp2_with fail
      go_ret2
      exact ⟨.inr (.inr ⟨HOK.out, by omega, y, rfl, HW.out⟩), hb⟩
    | true =>
      have HM0 := Lib.hid (show readTab wr G (n * 81) = c0 from readTab_of (TabAt.of_owns ho))
      have HR0 := Lib.hid (show Rnd g ws c0 c0 false (Done g ws (Sb c0) 0 0 0) from ⟨by rw [(TabAt.of_owns ho).1, HN.out], hsound.out, fun _ => ⟨rfl, Done.start _ _ _⟩, fun h => by cases h⟩)
      have HO := Lib.hid ho
      have HB := Lib.hid hb
      obtain ⟨w0, hw0⟩ : ∃ w0 : World, w0 = wr := ⟨_, rfl⟩
      rw [← hw0] at HM0 HO HB ⊢
      clear ho hb hsound hclosed hw0 wr
      go_wp2_with fail
      go_loopw [8, 31] (fun cv iv wr => ∃ (ch : Bool) (c : List Bool) (i : Nat), cv = .bool ch ∧ iv = .int .i64 i ∧ i ≤ n ∧ wr.ownsRow G 50 81 (.slice (some ⟨G, 0, none⟩) n n) n (c.map Value.bool) ∧ RowKit.Hid (Rnd g ws c0 c ch (Done g ws (Sb c0) i 0 0)) ∧ Below W.heap.size W wr) (fun _ iv _ => n - (intOf iv).toNat)
      case atStart => exact ⟨false, c0, 0, rfl, rfl, by omega, HO.out, HR0, HB.out⟩
      clear HO HR0
      case round =>
        obtain ⟨ch, c, i, rfl, rfl, hi, ho, hr, hb⟩ := hrel
        by_cases hin : i < n
        · obtain ⟨bg, og, ro, rc, rfl, hrl, _, _, hrows, hcell⟩ := HX.out.get (j := i) (by rw [← HN.out]; exact hin)
          have hcg := hcell wr hb
          have HGI := Lib.hid (HG.out i (by rw [← HN.out]; exact hin))
          obtain ⟨rs, hrs⟩ : ∃ rs, rs = g.getD i [] := ⟨_, rfl⟩
          rw [← hrs] at hcg hrows hrl HGI
          have HRS := Lib.hid hrs
          have HRW := Lib.hid hrows
          have hr6 : rs.length ≤ 6 := HGI.out.1
          have HO := Lib.hid ho
          have HBI := Lib.hid hb
          obtain ⟨wi, hwi⟩ : ∃ wi : World, wi = wr := ⟨_, rfl⟩
          rw [← hwi] at HO HBI hcg ⊢
          clear ho hb hrows hrs hrl hwi hcell wr
          go_wp2_with fail
          go_loopw [8, 38] (fun cv kv wr => ∃ (ch : Bool) (c : List Bool) (k : Nat), cv = .bool ch ∧ kv = .int .i64 k ∧ k ≤ rs.length ∧ wr.ownsRow G 50 81 (.slice (some ⟨G, 0, none⟩) n n) n (c.map Value.bool) ∧ RowKit.Hid (Rnd g ws c0 c ch (Done g ws (Sb c0) i k 0)) ∧ Below W.heap.size W wr) (fun _ kv _ => rs.length - (intOf kv).toNat)
          case atStart => exact ⟨ch, c, 0, rfl, rfl, by omega, HO.out, hr, HBI.out⟩
          clear HO HBI hr hcg
          case round =>
            obtain ⟨ch, c, k, rfl, rfl, hk, ho, hr, hb⟩ := hrel
            by_cases hkl : k < rs.length
            · obtain ⟨bq, oq, so, sc, rfl, hsl, _, _, hints, hcell⟩ := HRW.out.get hkl
              have hcq := hcell wr hb
              obtain ⟨r, hrr⟩ : ∃ r, r = rs.getD k [] := ⟨_, rfl⟩
              have hr4 : r.length ≤ 4 := by rw [hrr]; exact (HGI.out.2 k hkl).1
              have HRX := Lib.hid (show ∀ x ∈ r, -(n : Int) ≤ x ∧ x ≤ 2 from by rw [hrr, HN.out]; exact (HGI.out.2 k hkl).2)
              have HRG := Lib.hid (show (g.getD i []).getD k [] = r by rw [← HRS.out, hrr])
              rw [← hrr] at hcq hints hsl
              have HI := Lib.hid (show ∀ w, Below W.heap.size W w → IntsAt .i64 w so r from fun w hb => hints.below (Nat.le_refl _) hb)
              have HO := Lib.hid ho
              have HBK := Lib.hid hb
              obtain ⟨wk, hwk⟩ : ∃ wk : World, wk = wr := ⟨_, rfl⟩
              rw [← hwk] at HO HBK hcq ⊢
              clear ho hb hints hrr hsl hwk hcell wr
              go_wp2_with fail
              go_loopw [8, 45] (fun cv fv wr => ∃ (ch : Bool) (c : List Bool) (f : Nat), cv = .bool ch ∧ fv = .int .i64 f ∧ f ≤ ws.length + 1 ∧ wr.ownsRow G 50 81 (.slice (some ⟨G, 0, none⟩) n n) n (c.map Value.bool) ∧ RowKit.Hid (Rnd g ws c0 c ch (Done g ws (Sb c0) i k f)) ∧ Below W.heap.size W wr) (fun _ fv _ => ws.length + 1 - (intOf fv).toNat)
              case atStart => exact ⟨ch, c, 0, rfl, rfl, by omega, HO.out, hr, HBK.out⟩
              clear HO HBK hr hcq
              case round =>
                obtain ⟨ch, c, f, rfl, rfl, hf, ho, hr, hb⟩ := hrel
                by_cases hfl : f < ws.length + 1
                · have HE := Lib.hid (ends_any n c ws r f G wc sc wo so wr (TabAt.of_owns ho) (HWS.out wr hb) (HI.out wr hb) hn5 (by omega) hr4 (by omega) HRX.out)
                  have HO := Lib.hid ho
                  have HB := Lib.hid hb
                  have hGl : G < wr.heap.size := by have := (ho.lt G rfl).2; exact this
                  clear ho hb
                  go_wp2_with fail
                  refine HE.out.mono ?_
                  clear HE
                  rintro e w2 ⟨vL, L, rfl, hoL, hgL, hb2⟩
                  obtain ⟨lo, lc, rfl⟩ := owns_shape hoL
                  have hLl := hgL.len
                  have HO2 := Lib.hid (owns_below HO.out hb2)
                  have HB2 := Lib.hid (HB.out.trans (hb2.mono HB.out.size))
                  have HGL := Lib.hid hgL
                  have HR2 := Lib.hid (show Rnd g ws c0 c ch (Done g ws (Sb c0) i k f ∧ c = c0 ∧ ∀ q, q < 0 → Sb c0 i f (L.getD q 0).toNat) from ⟨hr.out.len, hr.out.sound, fun h => ⟨(hr.out.quiet h).1, (hr.out.quiet h).2, (hr.out.quiet h).1, fun q hq => by omega⟩, hr.out.loud⟩)
                  have HMK := Lib.hid (show ∀ b : Nat, (b : Int) ∈ L → Mk g ws i f b from fun b hb => by
                    have h1 := (hgL.mem b).1 hb
                    refine Mk.closed g ws i (by rw [← HN.out]; exact hin) r ?_ f b (by omega) (h1.mono fun _ _ _ _ _ h => hr.out.sound _ _ _ h)
                    rw [← HRG.out, ← HRS.out]
                    simp [hkl])
                  have HOL := Lib.hid hoL
                  have HGN := Lib.hid (show ∀ gl, (Value.slice lo L.length lc).ownBlock = some gl → gl ≠ G from fun gl hgl => by have := (hoL.lt gl hgl).1; omega)
                  obtain ⟨c1, hc1⟩ : ∃ c1, c1 = c := ⟨_, rfl⟩
                  have HR3 := HR2
                  rw [show (c = c0) = (c1 = c0) by rw [hc1]] at HR3
                  rw [← hc1] at HGL
                  have hG2 : G < w2.heap.size := by have := hb2.size; omega
                  clear hoL hgL hb2 HO HB hr HR2 hc1
                  go_wp2_with fail
                  go_loopw [8, 54] (fun cv jv wr => ∃ (ch : Bool) (c : List Bool) (j : Nat), cv = .bool ch ∧ jv = .int .i64 j ∧ j ≤ L.length ∧ wr.ownsRow G 50 81 (.slice (some ⟨G, 0, none⟩) n n) n (c.map Value.bool) ∧ RowKit.Hid (Rnd g ws c0 c ch (Done g ws (Sb c0) i k f ∧ c1 = c0 ∧ ∀ q, q < j → Sb c0 i f (L.getD q 0).toNat)) ∧ Below W.heap.size W wr ∧ w2.heap.size ≤ wr.heap.size ∧ ∃ B, wr.ownsRow B 3 1 (.slice lo L.length lc) L.length (L.map (Value.int .i64))) (fun _ jv _ => L.length - (intOf jv).toNat)
                  case atStart => exact ⟨ch, c, 0, rfl, rfl, by omega, HO2.out, HR3, HB2.out, Nat.le_refl _, _, HOL.out⟩
                  clear HO2 HR3 HB2 HOL
                  case round =>
                    obtain ⟨ch, c, j, rfl, rfl, hj, ho, hr, hb, hsz, B, hol⟩ := hrel
                    by_cases hjl : j < L.length
                    · obtain ⟨bl, ol, rfl, hcl⟩ := IntsAt.of_owns hol j hjl
                      have hmem : L.getD j 0 ∈ L := by simp [hjl]
                      obtain ⟨b, hbe, hbl⟩ := HGL.out.range _ hmem
                      rw [hbe] at hcl hmem
                      have hclen := hr.out.len
                      rw [← HN.out] at hclen
                      have hidx : i * 81 + f * 9 + b < c.length := by omega
                      have hcy := (TabAt.of_owns ho).2 _ hidx
                      obtain ⟨y, hy⟩ : ∃ y, y = c.getD (i * 81 + f * 9 + b) false := ⟨_, rfl⟩
                      rw [← hy] at hcy
                      have HR4 := Lib.hid ((hr.out.put (by rw [← HN.out]; exact hin) (show f ≤ 8 by omega) (show b ≤ 8 by omega) (HMK.out b hmem) hy.symm).mono (E := Done g ws (Sb c0) i k f ∧ c1 = c0 ∧ ∀ q, q < j + 1 → Sb c0 i f (L.getD q 0).toNat) (fun _ h => ⟨h.1.1, h.1.2.1, fun q hq => by
                        by_cases e : q = j
                        · subst e; rw [hbe, Int.toNat_natCast]; exact h.2
                        · exact h.1.2.2 q (by omega)⟩))
                      have hfk := ho.frozenAt (i * 81 + f * 9 + b)
                      have hst := (ho.stored (i * 81 + f * 9 + b) (.bool true)).1
                      rw [← List.map_set] at hst
                      have HST := Lib.hid hst
                      have HGE := HGG.out
                      have HBS := Lib.hid (hb.setCell (p := ⟨G, i * 81 + f * 9 + b, none⟩) (by simp; omega) (.bool true))
                      have HLS := Lib.hid (show (wr.setCell ⟨G, i * 81 + f * 9 + b, none⟩ (.bool true)).ownsRow B 3 1 (.slice (some ⟨bl, ol, none⟩) L.length lc) L.length (L.map (Value.int .i64)) from owns_block hol fun gl hgl _ => by
                        have := HGN.out gl (by first | exact hgl | assumption)
                        exact heap_setCell_other _ _ _ _ (by simp; omega))
                      clear hst ho hr hb hol hmem hbe HGE hy
                      cases ch <;> cases y
                      all_goals
                        go_wp2_with fail
                        go_roundw
                      all_goals first
                        | exact ⟨_, _, j + 1, rfl, by go_num, by omega, HST.out, HR4, HBS.out, by simp; omega, _, HLS.out⟩
                        | (simp [intOf]; omega)
                    · obtain rfl : j = L.length := by omega
                      have HR5 := Lib.hid (hr.out.mono (E := Done g ws (Sb c0) i k (f + 1)) (fun _ h => h.1.place (fun b hs => by
                        rw [HRG.out, ← h.2.1] at hs
                        obtain ⟨q, hq, e⟩ := List.mem_iff_getElem.1 ((HGL.out.mem b).2 hs)
                        have := h.2.2 q hq
                        rw [show L.getD q 0 = (b : Int) by simp [hq, e], Int.toNat_natCast] at this
                        exact this)))
                      have HO := Lib.hid ho
                      have HB := Lib.hid hb
                      clear ho hb hr hol
                      go_wp2_with fail
                      go_roundw
                      case rel => exact ⟨ch, c, f + 1, rfl, by go_num, by omega, HO.out, HR5, HB.out⟩
                      case measure => simp [intOf]; omega
                · have HR := Lib.hid (hr.out.mono (fun _ h => Done.rule (g := g) h (by omega)))
                  have HO := Lib.hid ho
                  have HB := Lib.hid hb
                  clear hr ho hb
                  go_wp2_with fail
                  go_roundw
                  case rel => exact ⟨ch, c, k + 1, rfl, by go_num, by omega, HO.out, HR, HB.out⟩
                  case measure => simp [intOf]; omega
            · have HR := Lib.hid (hr.out.mono (fun _ h => Done.name (g := g) h (by rw [← HRS.out]; omega)))
              have HO := Lib.hid ho
              have HB := Lib.hid hb
              clear hr ho hb
              go_wp2_with fail
              go_roundw
              case rel => exact ⟨ch, c, i + 1, rfl, by go_num, by omega, HO.out, HR, HB.out⟩
              case measure => simp [intOf]; omega
        · obtain rfl : i = n := by omega
          have HO := Lib.hid ho
          have HB := Lib.hid hb
          have HM1 := Lib.hid (show readTab wr G (i * 81) = c from readTab_of (TabAt.of_owns ho))
          have HR := Lib.hid hr.out
          clear ho hb hr
          go_wp2_with fail
          go_roundw
          case rel => exact ⟨ch, c, rfl, HO.out, Lib.hid HR.out.sound, Lib.hid (fun h => by
            obtain ⟨e, hd⟩ := HR.out.quiet h
            rw [e]
            rw [HN.out] at hd
            exact hd.closed), HB.out⟩
          case measure =>
            show 2 * left (readTab wr G (i * 81)) + isTrue (.bool ch) < 2 * left (readTab w0 G (i * 81)) + isTrue (.bool true)
            rw [HM1.out, HM0.out]
            cases ch with
            | false => rw [(HR.out.quiet rfl).1]; simp [isTrue]
            | true => have := HR.out.loud rfl; simp [isTrue]; omega
end Go.Proofs.YtfdjnofkoegbdaaDoor
