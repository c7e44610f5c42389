/- assayerref2.MadeOf: the walk. No conditions. -/
import Derived.Test.YtfdjnofkoegbdaaDoorGram9
import Derived.Deep.LoopGhost
namespace Go.Proofs.YtfdjnofkoegbdaaDoor
open Go.RowKit Go.Mine Go.Mine.Gram

/-- What MadeOf tells. -/
def MadePost (g : List (List (List Int))) (ws : List Int) (e : Ending) (w' : World) : Prop :=
  ∃ m mc cl, e = .returned (.slice (some ⟨m, 0, none⟩) g.length mc) ∧ MadeAt w' (some ⟨m, 0, none⟩) g.length (ws.length + 1) (tab cl) ∧ (cl.getD ws.length false = true ↔ Word g ws)
set_option maxHeartbeats 2000000 in
set_option maxRecDepth 100000 in
theorem madeOf_any (g : List (List (List Int))) (ws : List Int) (go' wo : Option Addr) (gc wc : Nat) (W : World) (hx : GridAt W go' g) (hw : IntsAt .i64 W wo ws) (hok : gok g) (hwl : ws.length ≤ 8) :
    Calls Tryd.prog 20 #[.slice go' g.length gc, .slice wo ws.length wc] W fun e w' => MadePost g ws e w' ∧ Below W.heap.size W w' := by
  obtain ⟨i1, hi1, hz1, hs1, hy1⟩ := info_parts infoB2
  obtain ⟨i2, hi2, hz2, hs2, hy2⟩ := info_parts infoB3
  have HX := Lib.hid hx
  have HWS := Lib.hid (show ∀ w, Below W.heap.size W w → IntsAt .i64 w wo ws from fun w hb => hw.below (Nat.le_refl _) hb)
  have HOK := Lib.hid hok
  obtain ⟨hn1, hn5, hg⟩ := hok
  have HG := Lib.hid hg
  obtain ⟨n, hn⟩ : ∃ n, n = g.length := ⟨_, rfl⟩
  have HN := Lib.hid hn
  obtain ⟨L, hL⟩ : ∃ L, L = ws.length + 1 := ⟨_, rfl⟩
  have HLL := Lib.hid hL
  have hL9 : L ≤ 9 := by omega
  have hL0 : 0 < L := by omega
  have hmk := run_make_row' (P := Tryd.prog) 52 4 (.bool false) 1 Tryd.underlying52 infoB1 rfl .i64 .i64 L (by omega) (by omega)
  have hLi : (ws.length : Int) + 1 = (L : Int) := by omega
  rw [← hn] at hn1 hn5 ⊢
  clear hx hw hg hn hL
  go_enter Tryd.func20, Tryd.ntmps20
  go_wp2_with fail
  go_loopw [5, 6] (fun mv iv wr => ∃ (i : Nat) (pall qall : List Nat) (ms : List Value), iv = .int .i64 i ∧ i ≤ n ∧ RowKit.Hid (Mk8 W wr L i 0 pall qall (.slice none 0 0) mv ms)) (fun _ iv _ => n - (intOf iv).toNat)
  case atStart =>
    refine ⟨0, [], [], [], rfl, by omega, Lib.hid ⟨by simp, rfl, by simp, by simp, fun j hj => by omega, ?_, World.ownsRow_nil _ _ _ _, fun j hj => by omega, by simp, by simp, (fun g h => by cases h), Below.refl _ _⟩⟩
    rw [List.drop_nil, List.map_nil]
    exact World.ownsRow_nil _ _ _ _
  case round =>
    obtain ⟨i, pall, qall, ms, rfl, hi, hst⟩ := hrel
    by_cases hin : i < n
    · have HS0 := Lib.hid hst.out
      clear hst
      go_wp2_with fail
      go_loopw [7, 8] (fun rv kv wr => ∃ (k : Nat) (pall : List Nat), kv = .int .i64 k ∧ k ≤ L ∧ RowKit.Hid (Mk8 W wr L i k pall qall rv u5 ms)) (fun _ kv _ => L - (intOf kv).toNat)
      case atStart => exact ⟨0, pall, rfl, by omega, HS0⟩
      clear HS0
      case round =>
        obtain ⟨k, pall, rfl, hk, hst⟩ := hrel
        have hbs := hst.out.below.size
        by_cases hkl : k < L
        · have hkw : k ≤ ws.length := by have := HLL.out; omega
          have hb2 : Below wr.heap.size wr ((wr.alloc (.cells (madeCells #[Value.bool false] L) 4)).alloc (.cells #[sl L wr.heap.size] 52)) := ((Below.refl _ _).alloc (Nat.le_refl _) _).alloc (by simp) _
          have HO := Lib.hid (owns_below hst.out.rows hb2)
          have HS := Lib.hid hst.out
          have hsl : sl L wr.heap.size = .slice (some ⟨wr.heap.size, 0, none⟩) L L := rfl
          rw [hsl] at HO
          clear hst hb2 hsl
          go_wp2_with (at_builtin; refine wpList_push2 _ rfl _ _ 53 rfl W.heap.size 52 i1 (.slice none 0 0) 1 24 Tryd.underlying53 hi1 hz1 hs1 hy1 rfl (by decide) _ _ _ rfl HO.out ⟨wr.heap.size + 1, 0, none⟩ 1 [.slice (some ⟨wr.heap.size, 0, none⟩) L L] rfl rfl ?_ (by intro u hu; simp at hu; subst hu; rfl) (by unfold maxLen; omega) (by omega) (by simp; omega) ?_)
          · have := cell_one_new (wr.alloc (.cells (madeCells #[Value.bool false] L) 4)) (.slice (some ⟨wr.heap.size, 0, none⟩) L L) 52
            simpa using this
          intro g7 cap w7 ho7 hg7 hat
          have hst7 := HS.out.row (by rw [List.map_drop]; exact ho7) rfl hg7 hat
          have HS7 := Lib.hid hst7
          clear ho7 hg7 hat hst7 HO HS
          go_wp2_with fail
          go_roundw
          case rel => exact ⟨k + 1, _, by go_num, by omega, HS7⟩
          case measure => simp [intOf]; omega
        · obtain rfl : k = L := by omega
          have hgt : ws.length < k := by have := HLL.out; omega
          have hrs : ∃ q rc, u7 = .slice (some ⟨q, 0, none⟩) k rc := by
            rcases hst.out.rows.2 with ⟨_, h5⟩ | ⟨g, cap, _, h5, _⟩
            · omega
            · exact ⟨g, cap, h5⟩
          obtain ⟨q, rc, rfl⟩ := hrs
          have HO := Lib.hid (owns_below hst.out.made ((Below.refl _ _).alloc (Nat.le_refl _) (.cells #[.slice (some ⟨q, 0, none⟩) k rc] 53)))
          have HS := Lib.hid hst.out
          clear hst
          go_wp2_with (at_builtin; refine wpList_push2 _ rfl _ _ 55 rfl W.heap.size 53 i2 (.slice none 0 0) 1 24 Tryd.underlying55 hi2 hz2 hs2 hy2 rfl (by decide) _ _ _ rfl HO.out ⟨wr.heap.size, 0, none⟩ 1 [.slice (some ⟨q, 0, none⟩) k rc] rfl rfl (cell_one_new _ _ _) (by intro u hu; simp at hu; subst hu; rfl) (by unfold maxLen; omega) (by omega) (by simp; omega) ?_)
          intro g7 cap w7 ho7 hg7 hat
          have hst7 := HS.out.next ho7 rfl hg7 hat
          have HS7 := Lib.hid hst7
          clear ho7 hg7 hat hst7 HO HS
          go_wp2_with fail
          go_roundw
          case rel => exact ⟨i + 1, pall, _, _, by go_num, by omega, HS7⟩
          case measure => simp [intOf]; omega
    · obtain rfl : i = n := by omega
      have hms : ∃ m mc, u5 = .slice (some ⟨m, 0, none⟩) i mc := by
        rcases hst.out.made.2 with ⟨_, h5⟩ | ⟨g, cap, _, h5, _⟩
        · omega
        · exact ⟨g, cap, h5⟩
      obtain ⟨m, mc, rfl⟩ := hms
      have HMD := Lib.hid (hst.out.md (by unfold maxLen; omega) hL0)
      obtain ⟨q, hq⟩ : ∃ q : Nat → Nat, q = fun i => qall.getD i 0 := ⟨_, rfl⟩
      obtain ⟨p, hp⟩ : ∃ p : Nat → Nat → Nat, p = fun i a => pall.getD (i * L + a) 0 := ⟨_, rfl⟩
      rw [← hq, ← hp] at HMD
      clear hst hq hp
      go_wp2_with fail
      go_loopg [9] (2 * left (List.replicate (i * 81) false) + 1) (fun gk cv wr => ∃ (ch : Bool) (cl : List Bool), gk = 2 * left cl + (if ch then 1 else 0) ∧ cv = .bool ch ∧ cl.length = i * 81 ∧ RowKit.Hid (Md W wr m i L q p (tab cl)) ∧ RowKit.Hid (∀ i a b, Sb cl i a b → Mk g ws i a b) ∧ RowKit.Hid (ch = false → Closed g ws (Sb cl)))
      case atStart => exact ⟨true, _, rfl, rfl, by simp, HMD, Lib.hid (fun i a b h => (sb_none h).elim), Lib.hid (fun h => by cases h)⟩
      clear HMD
      case round =>
        obtain ⟨ch, c0, rfl, rfl, hcl, hmd, hsound, hclosed⟩ := hrel
        cases ch with
        | false =>
          have HW := Lib.hid (word_iff hsound.out (hclosed.out rfl) (by omega))
          have HM := Lib.hid hmd.out.made
          have HB := Lib.hid hmd.out.below
          rw [HLL.out] at HM
          clear hsound hclosed hmd
          go_wp2_with fail
          go_ret
          exact ⟨⟨m, mc, c0, by rw [← HN.out]; rfl, by rw [← HN.out]; exact HM.out, HW.out⟩, HB.out⟩
        | true =>
          have HR0 := Lib.hid (show Rnd g ws c0 c0 false (Done g ws (Sb c0) 0 0 0) from ⟨by rw [hcl, HN.out], hsound.out, fun _ => ⟨rfl, Done.start _ _ _⟩, fun h => by cases h⟩)
          have HMD := Lib.hid hmd.out
          clear hmd hsound hclosed
          go_wp2_with fail
          go_loopw [9, 10] (fun cv av wr => ∃ (ch : Bool) (cl : List Bool) (a : Nat), cv = .bool ch ∧ av = .int .i64 a ∧ a ≤ i ∧ RowKit.Hid (Md W wr m i L q p (tab cl)) ∧ RowKit.Hid (Rnd g ws c0 cl ch (Done g ws (Sb c0) a 0 0))) (fun _ av _ => i - (intOf av).toNat)
          case atStart => exact ⟨false, c0, 0, rfl, rfl, by omega, HMD, HR0⟩
          clear HMD HR0
          case round =>
            obtain ⟨ch, cl, a, rfl, rfl, ha, hmd, hr⟩ := hrel
            by_cases hai : a < i
            · obtain ⟨bg, og, ro, rc, hge, _, _, _, hrows, hcell⟩ := HX.out.get (j := a) (by rw [← HN.out]; exact hai)
              subst hge
              have HGI := Lib.hid (HG.out a (by rw [← HN.out]; exact hai))
              obtain ⟨rs, hrs⟩ : ∃ rs, rs = g.getD a [] := ⟨_, rfl⟩
              rw [← hrs] at hcell hrows HGI
              have HRS := Lib.hid hrs
              have HRW := Lib.hid hrows
              have HCG := Lib.hid hcell
              have hr6 : rs.length ≤ 6 := HGI.out.1
              have HMD := Lib.hid hmd.out
              have HR := Lib.hid hr.out
              clear hrows hrs hcell hmd hr
              go_wp2_with fail
              go_loopw [9, 11] (fun cv kv wr => ∃ (ch : Bool) (cl : List Bool) (k : Nat), cv = .bool ch ∧ kv = .int .i64 k ∧ k ≤ rs.length ∧ RowKit.Hid (Md W wr m i L q p (tab cl)) ∧ RowKit.Hid (Rnd g ws c0 cl ch (Done g ws (Sb c0) a k 0))) (fun _ kv _ => rs.length - (intOf kv).toNat)
              case atStart => exact ⟨ch, cl, 0, rfl, rfl, by omega, HMD, HR⟩
              clear HMD HR
              case round =>
                obtain ⟨ch, cl, k, rfl, rfl, hk, hmd, hr⟩ := hrel
                have hcg := HCG.out wr hmd.out.below
                by_cases hkl : k < rs.length
                · obtain ⟨bq, oq, so, sc, hroe, _, _, hrc, hints, hcell⟩ := HRW.out.get hkl
                  subst hroe
                  obtain ⟨r, hrr⟩ : ∃ r, r = rs.getD k [] := ⟨_, rfl⟩
                  have hr4 : r.length ≤ 4 := by rw [hrr]; exact (HGI.out.2 k hkl).1
                  have HRX := Lib.hid (show ∀ x ∈ r, -(i : Int) ≤ x ∧ x ≤ 2 from by rw [hrr, HN.out]; exact (HGI.out.2 k hkl).2)
                  have HRG := Lib.hid (show (g.getD a []).getD k [] = r by rw [← HRS.out, hrr])
                  rw [← hrr] at hcell hints hrc
                  have HRM := Lib.hid (show r ∈ g.getD a [] by rw [← HRS.out, hrr]; simp [hkl])
                  have HI := Lib.hid (show ∀ w, Below W.heap.size W w → IntsAt .i64 w so r from fun w hb => hints.below (Nat.le_refl _) hb)
                  have HCQ := Lib.hid hcell
                  have HMD := Lib.hid hmd.out
                  have HR := Lib.hid hr.out
                  clear hints hrr hcell hmd hr
                  go_wp2_with fail
                  go_loopw [9, 12] (fun cv fv wr => ∃ (ch : Bool) (cl : List Bool) (f : Nat), cv = .bool ch ∧ fv = .int .i64 f ∧ f ≤ ws.length + 1 ∧ RowKit.Hid (Md W wr m i L q p (tab cl)) ∧ RowKit.Hid (Rnd g ws c0 cl ch (Done g ws (Sb c0) a k f))) (fun _ fv _ => ws.length + 1 - (intOf fv).toNat)
                  case atStart => exact ⟨ch, cl, 0, rfl, rfl, by omega, HMD, HR⟩
                  clear HMD HR hcg
                  case round =>
                    obtain ⟨ch, cl, f, rfl, rfl, hf, hmd, hr⟩ := hrel
                    by_cases hfl : f ≤ ws.length
                    · have HMD := Lib.hid hmd.out
                      have HR := Lib.hid (show Rnd g ws c0 cl ch (Done g ws (Sb c0) a k f ∧ ∀ t', f ≤ t' → t' < f → Spn (Sb c0) ws r f t' → Sb c0 a f t') from hr.out.mono (fun _ h => ⟨h, fun t' h1 h2 => by omega⟩))
                      clear hmd hr
                      go_wp2_with fail
                      go_loopw [9, 13] (fun cv tv wr => ∃ (ch : Bool) (cl : List Bool) (t : Nat), cv = .bool ch ∧ tv = .int .i64 t ∧ f ≤ t ∧ t ≤ ws.length + 1 ∧ RowKit.Hid (Md W wr m i L q p (tab cl)) ∧ RowKit.Hid (Rnd g ws c0 cl ch (Done g ws (Sb c0) a k f ∧ ∀ t', f ≤ t' → t' < t → Spn (Sb c0) ws r f t' → Sb c0 a f t'))) (fun _ tv _ => ws.length + 1 - (intOf tv).toNat)
                      case atStart => exact ⟨ch, cl, f, rfl, rfl, by omega, by omega, HMD, HR⟩
                      clear HMD HR
                      case round =>
                        obtain ⟨ch, cl, t, rfl, rfl, hft, ht, hmd, hr⟩ := hrel
                        by_cases htl : t ≤ ws.length
                        · obtain ⟨rcm, hcm⟩ := hmd.out.row a hai
                          have hfL : f < L := by have := HLL.out; omega
                          have htL : t < L := by have := HLL.out; omega
                          have hcc := hmd.out.col a f hai hfL
                          have hcy := hmd.out.cell hai hfL htL
                          have hcg := HCG.out wr hmd.out.below
                          have hcq := HCQ.out wr hmd.out.below
                          rw [show sl L (p a f) = .slice (some ⟨p a f, 0, none⟩) L L from rfl] at hcc
                          have hclen := hr.out.len
                          rw [← HN.out] at hclen
                          have hidx : a * 81 + f * 9 + t < cl.length := by omega
                          have HMA := Lib.hid (makes_any i (tab cl) ws (some ⟨m, 0, none⟩) wo mc wc t wr (by have := hmd.out.made; rw [HLL.out] at this; exact this) (HWS.out wr hmd.out.below) hn5 hwl htl r so sc f (HI.out wr hmd.out.below) hrc hr4 HRX.out hft)
                          have HMD := Lib.hid hmd.out
                          have HR := Lib.hid hr.out
                          obtain ⟨y, hy⟩ : ∃ y, y = tab cl a f t := ⟨_, rfl⟩
                          rw [← hy] at hcy
                          have HY := Lib.hid hy
                          clear hmd hr hy
                          cases y with
                          | true =>
                            have HR2 := Lib.hid (show Rnd g ws c0 cl ch (Done g ws (Sb c0) a k f ∧ ∀ t', f ≤ t' → t' < t + 1 → Spn (Sb c0) ws r f t' → Sb c0 a f t') from ⟨HR.out.len, HR.out.sound, fun hc => ⟨(HR.out.quiet hc).1, (HR.out.quiet hc).2.1, fun t' h1 h2 h3 => by
                              by_cases e : t' = t
                              · subst e
                                rw [← (HR.out.quiet hc).1]
                                exact ⟨by omega, by omega, HY.out.symm⟩
                              · exact (HR.out.quiet hc).2.2 t' h1 (by omega) h3⟩, HR.out.loud⟩)
                            go_wp2_with fail
                            go_roundw
                            case rel => exact ⟨ch, cl, t + 1, rfl, by go_num, by omega, by omega, HMD, HR2⟩
                            case measure => simp [intOf]; omega
                          | false =>
                            go_wp2_with fail
                            refine HMA.out.mono ?_
                            clear HMA
                            rintro e w2 ⟨⟨b, rfl, hb⟩, rfl⟩
                            have HBB := Lib.hid (hb.trans (tab_spn (by omega)))
                            clear hb
                            cases b with
                            | false =>
                              have HR2 := Lib.hid (show Rnd g ws c0 cl ch (Done g ws (Sb c0) a k f ∧ ∀ t', f ≤ t' → t' < t + 1 → Spn (Sb c0) ws r f t' → Sb c0 a f t') from ⟨HR.out.len, HR.out.sound, fun hc => ⟨(HR.out.quiet hc).1, (HR.out.quiet hc).2.1, fun t' h1 h2 h3 => by
                                by_cases e : t' = t
                                · subst e
                                  rw [← (HR.out.quiet hc).1] at h3
                                  have := HBB.out.2 h3
                                  cases this
                                · exact (HR.out.quiet hc).2.2 t' h1 (by omega) h3⟩, HR.out.loud⟩)
                              go_wp2_with fail
                              go_roundw
                              case rel => exact ⟨ch, cl, t + 1, rfl, by go_num, by omega, by omega, HMD, HR2⟩
                              case measure => simp [intOf]; omega
                            | true =>
                              have hmk9 : Mk g ws a f t := Mk.closed g ws a (by rw [← HN.out]; exact hai) r HRM.out f t (by omega) ((HBB.out.1 rfl).mono fun _ _ _ _ _ h => HR.out.sound _ _ _ h)
                              have hr9 := HR.out.put (y := false) (by rw [← HN.out]; exact hai) (show f ≤ 8 by omega) (show t ≤ 8 by omega) hmk9 HY.out.symm
                              rw [Bool.not_false, Bool.or_true] at hr9
                              have HR2 := Lib.hid (hr9.mono (E := Done g ws (Sb c0) a k f ∧ ∀ t', f ≤ t' → t' < t + 1 → Spn (Sb c0) ws r f t' → Sb c0 a f t') (fun h => by cases h))
                              have HMD2 := Lib.hid (HMD.out.set hL9 hclen hai hfL htL)
                              have hfk := (HMD.out.cells a f hai hfL).frozenAt t
                              clear hr9 hmk9 HR HMD
                              go_wp2_with fail
                              go_roundw
                              case rel => exact ⟨true, _, t + 1, rfl, by go_num, by omega, by omega, HMD2, HR2⟩
                              case measure => simp [intOf]; omega
                        · have hte : t = ws.length + 1 := by omega
                          have HR2 := Lib.hid (show Rnd g ws c0 cl ch (Done g ws (Sb c0) a k (f + 1)) from hr.out.mono (fun _ h => h.1.place (fun b hs => by
                            rw [HRG.out] at hs
                            have hrg := hs.range hfl
                            exact h.2 b hrg.1 (by omega) hs)))
                          have HMD := Lib.hid hmd.out
                          clear hmd hr
                          go_wp2_with fail
                          go_roundw
                          case rel => exact ⟨ch, cl, f + 1, rfl, by go_num, by omega, HMD, HR2⟩
                          case measure => simp [intOf]; omega
                    · have HR2 := Lib.hid (hr.out.mono (fun _ h => Done.rule (g := g) h (by omega)))
                      have HMD := Lib.hid hmd.out
                      clear hmd hr
                      go_wp2_with fail
                      go_roundw
                      case rel => exact ⟨ch, cl, k + 1, rfl, by go_num, by omega, HMD, HR2⟩
                      case measure => simp [intOf]; omega
                · have HR2 := Lib.hid (hr.out.mono (fun _ h => Done.name (g := g) h (by rw [← HRS.out]; omega)))
                  have HMD := Lib.hid hmd.out
                  clear hmd hr
                  go_wp2_with fail
                  go_roundw
                  case rel => exact ⟨ch, cl, a + 1, rfl, by go_num, by omega, HMD, HR2⟩
                  case measure => simp [intOf]; omega
            · have hae : a = i := by omega
              have HR2 := Lib.hid (show RowKit.Hid (∀ i a b, Sb cl i a b → Mk g ws i a b) ∧ RowKit.Hid (ch = false → Closed g ws (Sb cl)) ∧ cl.length = i * 81 ∧ 2 * left cl + (if ch then 1 else 0) < 2 * left c0 + 1 from by
                refine ⟨Lib.hid hr.out.sound, Lib.hid (fun h => ?_), by rw [hr.out.len, ← HN.out], ?_⟩
                · obtain ⟨e, hd⟩ := hr.out.quiet h
                  rw [e]
                  rw [hae, HN.out] at hd
                  exact hd.closed
                · cases ch with
                  | false => rw [(hr.out.quiet rfl).1]; simp
                  | true => have := hr.out.loud rfl; simp; omega)
              have HMD := Lib.hid hmd.out
              clear hmd hr
              go_wp2_with fail
              go_roundg (2 * left cl + (if ch then 1 else 0))
              case measure => simpa using HR2.out.2.2.2
              case rel => exact ⟨ch, cl, rfl, rfl, HR2.out.2.2.1, HMD, HR2.out.1, HR2.out.2.1⟩
end Go.Proofs.YtfdjnofkoegbdaaDoor
