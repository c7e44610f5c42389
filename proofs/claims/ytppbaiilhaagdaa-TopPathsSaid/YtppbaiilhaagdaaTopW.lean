/- TopPaths' walk. No conditions but what the reading tells. -/
import Derived.Test.YtppbaiilhaagdaaTopO
import Derived.Test.YtppbaiilhaagdaaTopP
import Derived.Test.YtppbaiilhaagdaaPath7
import Derived.Deep.CutBlock
import Derived.BigQuiet
namespace Go.Proofs.Ytppbaiilhaagdaa
open Go.RowKit Go.Mine Go.Mine.Path Go.Mine.Flow Go.Deep

/-- The path ahead, apart from the row of marks. -/
def LastAt (mb : Nat) (l : List Nat) (ao : Option Addr) (w : World) : Prop := IntsAt .i64 w ao (ints l) ∧ ∀ a, ao = some a → a.block ≠ mb
theorem LastAt.set {mb : Nat} {l : List Nat} {ao : Option Addr} {w : World} (h : LastAt mb l ao w) (j : Nat) (v : Value) : LastAt mb l ao (w.setCell ⟨mb, j, none⟩ v) :=
  ⟨fun i hi => by
    obtain ⟨b, o, e, hc⟩ := h.1 i hi
    exact ⟨b, o, e, keep_set hc (fun e2 => h.2 _ e e2.symm)⟩, h.2⟩
theorem LastAt.call {mb : Nat} {l : List Nat} {ao : Option Addr} {w w' : World} (h : LastAt mb l ao w) (hb : Below w.heap.size w w') : LastAt mb l ao w' := ⟨h.1.below (Nat.le_refl _) hb, h.2⟩
theorem last_of {w : World} {mb n : Nat} {f : Nat → Bool} {ao : Option Addr} {l : List Nat} (h : IntsAt .i64 w ao (ints l)) (hm : w.rowIs mb 4 n (fun v => .bool (f v))) (hl : 0 < l.length) : LastAt mb l ao w :=
  ⟨h, fun a ha e => by
    obtain ⟨b, o, hao, hc⟩ := h 0 (by rw [ints_len]; exact hl)
    rw [ha] at hao
    cases hao
    obtain ⟨cs, h1, h2, h3⟩ := hm
    simp only at e
    subst e
    rw [cell_of_row _ _ _ _ _ _ h1] at hc
    by_cases ho : o + 0 < n
    · rw [h3 _ ho] at hc
      cases hc
    · rw [Array.getElem?_eq_none (by omega)] at hc
      cases hc⟩
theorem LastAt.nil (mb : Nat) (w : World) : LastAt mb [] none w := ⟨IntsAt.nil _ _ _, fun _ h => by cases h⟩
theorem one_ok : pathOk 1 [] := ⟨⟨by decide, by decide, by decide, by decide⟩, by decide, acy_lt (by decide)⟩
theorem one_np : np (natE []) 1 0 = 1 := by decide +kernel
theorem acy_good {n : Nat} {es : List (Nat × Nat)} (h : ∀ e ∈ es, e.1 < n ∧ e.2 < n) (ha : Acy es) : ∀ i, Path.Good es i := good_of_acy h ha

theorem still_skip {P : Program} {ops : Array Oper} {w : World} {Q : Act → Prop} {a : Act} {o : Oper} {rest : List Oper} (hw : Region.wanted o (yielded ops a.tmps) = false) (h : wpStill P ops w Q rest (a.put o.dst undef)) : wpStill P ops w Q (o :: rest) a := by
  unfold wpStill
  rw [hw]
  exact h

set_option maxHeartbeats 4000000 in
set_option maxRecDepth 100000 in
theorem topPaths_any (n : Int) (es : List (Int × Int)) (lo : Option Addr) (lc : Nat) (W : World) (hx : PairsAt W lo es) (hl : es.length ≤ maxLen) (hc : lo ≠ none → es.length ≤ lc) :
    Calls Try.prog 3 #[.int .i64 n, .slice lo es.length lc] W fun e w' => e = .returned (.bool true) ∧ Below W.heap.size W w' := by
  have HX := Lib.hid (show ∀ w, Below W.heap.size W w → PairsAt w lo es from fun w hb => hx.below (Nat.le_refl _) hb)
  have HL := Lib.hid (And.intro hl hc)
  have HC := Lib.hid (pcount_any n es lo lc W hx hl hc)
  have HC1 := Lib.hid (show ∀ w : World, Calls Try.prog 6 #[.int .i64 1, .slice none 0 0] w fun e w' => e = .returned (.tuple #[.int .i64 1, .nilIface]) ∧ Below w.heap.size w w' from fun w =>
    (pcount_any 1 [] none 0 w (fun j hj => by simp at hj) (by unfold maxLen; simp) (fun h => absurd rfl h)).mono fun e w' h => ⟨by
      rcases h.2 with ⟨_, rfl⟩ | ⟨h2, _⟩
      · rw [show ((1 : Int)).toNat = 1 from rfl, one_np]; rfl
      · exact absurd one_ok h2, h.1⟩)
  clear hx hl hc
  go_enter Try.func3, Try.ntmps3
  go_wp2_with fail
  refine HC.out.mono ?_
  clear HC
  rintro e w1 ⟨hb, ⟨hok, rfl⟩ | ⟨_, c, rfl, _, _⟩⟩
  rotate_left
  · have HB1 := Lib.hid hb
    have HC2 := Lib.hid (HC1.out w1)
    clear HC1 hb
    go_wp2_with fail
    refine HC2.out.mono ?_
    clear HC2
    rintro e w2 ⟨rfl, hb⟩
    have HB2 := Lib.hid (HB1.out.trans (hb.mono HB1.out.size))
    clear hb
    go_wp2_with fail
    go_ret
    exact ⟨rfl, HB2.out⟩
  · have HB1 := Lib.hid hb
    have HC2 := Lib.hid (HC1.out w1)
    obtain ⟨z, hz⟩ : ∃ z, z = np (natE es) n.toNat 0 := ⟨_, rfl⟩
    rw [← hz]
    have HZ := Lib.hid hz
    have HOK := Lib.hid hok
    clear HC1 hb hz hok
    go_wp2_with fail
    refine HC2.out.mono ?_
    clear HC2
    rintro e w2 ⟨rfl, hb⟩
    have HB2 := Lib.hid (HB1.out.trans (hb.mono HB1.out.size))
    clear hb HB1
    by_cases h300 : 300 < z
    · have h1 : decide ((300 : Int) < (z : Int)) = true := by simp; omega
      have h2 : decide (300 < z) = true := by simp; omega
      have h3 : (300 : Int) < (z : Int) := by omega
      go_wp2_with fail
      go_ret
      exact ⟨rfl, HB2.out⟩
    · have h3 : ¬ (300 : Int) < (z : Int) := by omega
      obtain ⟨N, rfl⟩ := Int.eq_ofNat_of_zero_le (show 0 ≤ n by have := HOK.out.1.1; omega)
      have hel : es.length ≤ 30 := HOK.out.1.2.2.1
      have hn1 : 1 ≤ N := by have := HOK.out.1.1; omega
      have hes : ∀ e ∈ natE es, e.1 < N ∧ e.2 < N := nat_ok HOK.out.1
      have HES := Lib.hid hes
      have HGD := Lib.hid (acy_good hes HOK.out.2.2)
      rw [show ((N : Int)).toNat = N from rfl] at HZ
      have hmk := run_make_row' (P := Try.prog) 28 4 (.bool false) 1 Try.underlying28 infoBool rfl .i64 .i64 es.length (by omega) (by omega)
      obtain ⟨w3, hw3⟩ : ∃ w3, w2.alloc (.cells (madeCells #[Value.bool false] es.length) 4) = w3 := ⟨_, rfl⟩
      obtain ⟨mb, hmb⟩ : ∃ mb, w2.heap.size = mb := ⟨_, rfl⟩
      have HM0 := Lib.hid (show w3.rowIs mb 4 es.length (fun v => .bool ((fun _ => false : Nat → Bool) v)) by rw [← hw3]; exact made_at _ _ _ _ _ hmb.symm)
      have HMB := Lib.hid (show W.heap.size ≤ mb by rw [← hmb]; exact HB2.out.size)
      have HB3 := Lib.hid (show Below W.heap.size W w3 by rw [← hw3]; exact HB2.out.alloc HB2.out.size _)
      clear hes HB2
      go_wp2_with fail
      clear hmk hw3 hmb
      go_loopw [9, 11] (fun lv kv wr => ∃ (k cap : Nat) (l : List Nat) (ao : Option Addr) (M : Nat → Bool), kv = .int .i64 (k : Int) ∧ lv = .slice ao l.length cap ∧ k ≤ z ∧ RowKit.Hid ((k = 0 ∧ l = []) ∨ ∃ q, k = q + 1 ∧ (paths (natE es) N 0)[q]? = some l) ∧ RowKit.Hid (LastAt mb l ao wr ∧ l.length ≤ cap) ∧ RowKit.Hid (wr.rowIs mb 4 es.length (fun v => .bool (M v))) ∧ RowKit.Hid (MetP (natE es) N k M) ∧ RowKit.Hid (Below W.heap.size W wr)) (fun _ kv _ => z - (intOf kv).toNat)
      case atStart => exact ⟨0, 0, [], none, _, rfl, rfl, by omega, Lib.hid (.inl ⟨rfl, rfl⟩), Lib.hid ⟨LastAt.nil _ _, by simp⟩, HM0, Lib.hid (MetP.start _ _), HB3⟩
      clear HM0 HB3
      case round =>
        obtain ⟨k, cap, l, ao, M, rfl, rfl, hk, hq, hla, hm, hmp, hb⟩ := hrel
        have HQ := Lib.hid hq.out
        have HLA := Lib.hid hla.out
        have HM := Lib.hid hm.out
        have HMP := Lib.hid hmp.out
        have HB := Lib.hid hb.out
        clear hq hla hm hmp hb
        by_cases hkz : k < z
        · have HN := Lib.hid (nth_any N es k lo lc wr (HX.out wr HB.out) HL.out.1 HL.out.2)
          go_wp2_with fail
          refine HN.out.mono ?_
          clear HN
          rintro e w4 ⟨hb, ⟨_, w, ao2, cap2, _, hkw, rfl, hiw, hcap⟩ | ⟨_, hno, _⟩ | ⟨hno, _⟩⟩
          rotate_left
          · exact absurd ⟨by omega, by rw [show ((N : Int)).toNat = N from rfl, ← HZ.out]; omega⟩ hno
          · exact absurd HOK.out hno
          rw [show ((N : Int)).toNat = N from rfl, show ((k : Int)).toNat = k from rfl] at hkw
          have hpath := paths_isPath (List.mem_of_getElem? hkw)
          obtain ⟨r, hwr⟩ := hpath.start
          have hwl : w.length ≤ 12 := by
            have h := (by rw [← hwr]; exact hpath.walk : Walk (natE es) (0 :: r)).short HES.out (HGD.out 0) (by omega)
            rw [← hwr] at h
            have := HOK.out.1.2.1
            omega
          have hwl1 : 0 < w.length := by rw [hwr]; simp
          have hup : ∃ p, Up l w p := by
            rcases HQ.out with ⟨_, rfl⟩ | ⟨q, rfl, hq⟩
            · exact ⟨0, up_nil hwl1⟩
            · exact paths_up hq hkw
          obtain ⟨p, hup⟩ := hup
          have HKW := Lib.hid hkw
          have HM4 := Lib.hid (rowIs_call HM.out hb)
          have HLA4 := Lib.hid (And.intro (HLA.out.1.call hb) HLA.out.2)
          have HLB4 := Lib.hid (And.intro (last_of hiw HM4.out hwl1) hcap)
          have HB4 := Lib.hid (HB.out.trans (hb.mono HB.out.size))
          have HUP := Lib.hid hup
          obtain ⟨b, o, rfl, hce⟩ := hiw.plain (by rw [ints_len]; exact hwl1)
          have HCE := Lib.hid (show ∀ j, j < w.length → w4.cell? ⟨b, o + j, none⟩ = some (.int .i64 ((w.getD j 0 : Nat) : Int)) from fun j hj => by
            have := hce j (by rw [ints_len]; exact hj)
            rw [show (ints w).getD j 0 = ((w.getD j 0 : Nat) : Int) by simp [ints, hj]] at this
            exact this)
          have hpl := hup.lt
          have hple := hup.le
          obtain ⟨m, hm⟩ : ∃ m, w.length = m + 1 := ⟨w.length - 1, by omega⟩
          have HWM := Lib.hid hm
          rw [hm] at hcap hwl hpl HCE ⊢
          clear hkw hpath hwr hup hce hiw hb hwl1 hm HLA HM HB
          go_upto_block 2 with fail
          go_cut [14] from 64 to 97 (fun rv wx => ∃ nq : Nat, rv = .bool true ∧ RowKit.Hid (wx = w4.drewN nq))
          case first =>
            go_wp2_with fail
            go_loopw [14, 15] (fun rv iv wr => ∃ (i nq : Nat) (rb : Bool), rv = .bool rb ∧ iv = .int .i64 (i : Int) ∧ i ≤ m + 1 ∧ (rb = false → i ≤ p) ∧ RowKit.Hid (wr = w4.drewN nq)) (fun _ iv _ => m + 1 - (intOf iv).toNat)
            case atStart => exact ⟨0, 0, false, rfl, rfl, by omega, fun _ => by omega, Lib.hid (drewN_zero _).symm⟩
            case round =>
              obtain ⟨i, nq, rb, rfl, rfl, hi, hip, hwr⟩ := hrel
              have HWR := Lib.hid hwr.out
              clear hwr
              cases rb
              · have hip := hip rfl
                have him : i < m + 1 := by omega
                have him2 : (i : Int) < (m : Int) + 1 := by omega
                have hi0 : (0 : Int) ≤ (i : Int) := by omega
                have hicap : (i : Int) ≤ (cap2 : Int) := by omega
                have c0 : wr.cell? ⟨b, o + i, none⟩ = some (.int .i64 ((w.getD i 0 : Nat) : Int)) := by rw [HWR.out]; exact HCE.out i him
                by_cases hil : i = l.length
                · have b1 : ((i : Int) == (l.length : Int)) = true := by rw [beq_iff_eq]; omega
                  clear hil
                  go_wp2_with fail
                  go_quiet (fail)
                  go_wp2_with fail
                  go_roundw
                  case rel => exact ⟨i + 1, _, true, rfl, by go_num, by omega, fun h => (by cases h), Lib.hid (by rw [HWR.out]; exact drewN_drewN _ _ _)⟩
                  case measure => simp [intOf]; omega
                · have hil2 : i < l.length := by have := HUP.out.le; omega
                  have hil3 : (i : Int) < (l.length : Int) := by omega
                  have b1 : ((i : Int) == (l.length : Int)) = false := by rw [beq_eq_false_iff_ne]; omega
                  have b2 : decide ((i : Int) = (l.length : Int)) = false := by rw [decide_eq_false_iff_not]; omega
                  obtain ⟨bl, ol, rfl, hcl⟩ := HLA4.out.1.1 i (by rw [ints_len]; exact hil2)
                  rw [show (ints l).getD i 0 = ((l.getD i 0 : Nat) : Int) by simp [ints, hil2]] at hcl
                  have c1 : wr.cell? ⟨bl, ol + i, none⟩ = some (.int .i64 ((l.getD i 0 : Nat) : Int)) := by rw [HWR.out]; exact hcl
                  have hlc : l.length ≤ cap := HLA4.out.2
                  have hic : (i : Int) ≤ (cap : Int) := by omega
                  obtain ⟨x, hx⟩ : ∃ x, x = w.getD i 0 := ⟨_, rfl⟩
                  obtain ⟨y, hy⟩ : ∃ y, y = l.getD i 0 := ⟨_, rfl⟩
                  rw [← hx] at c0
                  rw [← hy] at c1
                  by_cases hlt : y < x
                  · have d1 : decide ((y : Int) < (x : Int)) = true := by simp; omega
                    have d2 : decide (y < x) = true := by simp; omega
                    clear hcl hx hy hlt hlc
                    go_wp2_with fail
                    go_quiet (fail)
                    go_wp2_with fail
                    go_roundw
                    case rel => exact ⟨i + 1, _, true, rfl, by go_num, by omega, fun h => (by cases h), Lib.hid (by rw [HWR.out]; exact drewN_drewN _ _ _)⟩
                    case measure => simp [intOf]; omega
                  · have hipl : i < p := by
                      rcases Nat.lt_or_ge i p with h | h
                      · exact h
                      · obtain rfl : i = p := by omega
                        rcases HUP.out.up with h2 | h2
                        · omega
                        · omega
                    have hxy : y = x := by rw [hx, hy]; exact HUP.out.same i hipl
                    subst hxy
                    have d1 : decide ((y : Int) < (y : Int)) = false := by simp
                    have d2 : decide (y < y) = false := by simp
                    clear hcl hx hy hlt hlc
                    go_wp2_with fail
                    go_quiet (fail)
                    go_wp2_with fail
                    go_quiet (fail)
                    go_wp2_with fail
                    go_roundw
                    case rel => exact ⟨i + 1, _, false, rfl, by go_num, by omega, fun _ => by omega, Lib.hid (by rw [HWR.out, drewN_drewN])⟩
                    case measure => simp [intOf]; omega
              · clear hip
                go_wp2_with fail
                go_meet
                exact ⟨nq, rfl, HWR⟩
          case rest =>
            obtain ⟨nq, rfl, hwc⟩ := hcut
            obtain ⟨w5, hw5⟩ : ∃ w5, w5 = wc := ⟨_, rfl⟩
            subst hw5
            have HM5 := Lib.hid (show w5.rowIs mb 4 es.length (fun v => .bool (M v)) by rw [hwc.out]; exact HM4.out)
            have HLB5 := Lib.hid (show LastAt mb w (some ⟨b, o, none⟩) w5 by rw [hwc.out]; exact HLB4.out.1)
            have HB5 := Lib.hid (show Below W.heap.size W w5 by rw [hwc.out]; exact below_drewN HB4.out nq)
            have HCP := Lib.hid hcap
            clear hwc HM4 HLB4 HLA4 HB4 HCE HUP hpl hple
            go_upto_region 23 with fail
            go_cut [103] from 98 to 103 (fun v wx => v = .bool false ∧ wx = w5)
            case first =>
              by_cases hk0 : k = 0
              · subst hk0
                go_wp2_with fail
                go_meet
                exact ⟨rfl, rfl⟩
              · have d1 : decide ((0 : Int) < (k : Int)) = true := by simp; omega
                have d2 : decide (0 < k) = true := by simp; omega
                have d3 : (0 : Int) < (k : Int) := by omega
                go_wp2_with fail
                go_meet
                exact ⟨rfl, rfl⟩
            case rest =>
              obtain ⟨rfl, hw6⟩ := hcut
              subst hw6
              go_wp2_with fail
              go_loopw [16] (fun iv wr => ∃ (q : Nat) (M' : Nat → Bool), iv = .int .i64 ((q : Int) + 1) ∧ q ≤ m ∧ RowKit.Hid (MetQ (natE es) w q M M') ∧ RowKit.Hid (LastAt mb w (some ⟨b, o, none⟩) wr) ∧ RowKit.Hid (wr.rowIs mb 4 es.length (fun v => .bool (M' v))) ∧ RowKit.Hid (Below W.heap.size W wr)) (fun iv _ => m + 1 - (intOf iv).toNat)
              case atStart => exact ⟨0, M, rfl, by omega, Lib.hid (MetQ.start _ _ _), HLB5, HM5, HB5⟩
              clear HLB5 HM5 HB5
              case round =>
                obtain ⟨q, M1, rfl, hqm, hmq, hlb, hm, hb⟩ := hrel
                have HMQ := Lib.hid hmq.out
                have HLB := Lib.hid hlb.out
                have HM := Lib.hid hm.out
                have HB := Lib.hid hb.out
                clear hmq hlb hm hb
                by_cases hqlt : q < m
                · have h1 : (q : Int) + 1 < (m : Int) + 1 := by omega
                  have h2 : (q : Int) < (m : Int) := by omega
                  go_wp2_with fail
                  go_loopw [17] (fun jv wr => ∃ (j : Nat) (M' : Nat → Bool), jv = .int .i64 (j : Int) ∧ j ≤ es.length ∧ RowKit.Hid (MetI (natE es) w q j M M') ∧ RowKit.Hid (LastAt mb w (some ⟨b, o, none⟩) wr) ∧ RowKit.Hid (wr.rowIs mb 4 es.length (fun v => .bool (M' v))) ∧ RowKit.Hid (Below W.heap.size W wr)) (fun jv _ => es.length - (intOf jv).toNat)
                  case atStart => exact ⟨0, M1, rfl, by omega, Lib.hid HMQ.out.inn, HLB, HM, HB⟩
                  clear HLB HM HB
                  case round =>
                    obtain ⟨j, M2, rfl, hj, hmi, hlb, hm, hb⟩ := hrel
                    have HMI := Lib.hid hmi.out
                    have HLB := Lib.hid hlb.out
                    have HM := Lib.hid hm.out
                    have HB := Lib.hid hb.out
                    clear hmi hlb hm hb
                    by_cases hlt : j < es.length
                    · obtain ⟨eb, eo, rfl, hc1, hc2⟩ := HX.out _ HB.out j hlt
                      have hmem : es.getD j (0, 0) ∈ es := by simp [hlt]
                      have hq := HOK.out.1.2.2.2 _ hmem
                      obtain ⟨u, hu⟩ : ∃ u : Nat, (es.getD j (0, 0)).1 = u := ⟨(es.getD j (0, 0)).1.toNat, by omega⟩
                      obtain ⟨v, hv⟩ : ∃ v : Nat, (es.getD j (0, 0)).2 = v := ⟨(es.getD j (0, 0)).2.toNat, by omega⟩
                      rw [hu] at hc1
                      rw [hv] at hc2
                      have hek : Ej (natE es) j = (u, v) := by
                        unfold Ej natE
                        have e : es.getD j (0, 0) = es[j] := by simp [hlt]
                        rw [e] at hu hv
                        simp [hlt, hu, hv]
                      have hqx : q < w.length := by have := HWM.out; omega
                      have hqy : q + 1 < w.length := by have := HWM.out; omega
                      obtain ⟨b', o', hbo, c0⟩ := HLB.out.1 q (by rw [ints_len]; exact hqx)
                      cases hbo
                      obtain ⟨b', o', hbo, c1⟩ := HLB.out.1 (q + 1) (by rw [ints_len]; exact hqy)
                      cases hbo
                      rw [show (ints w).getD q 0 = ((w[q] : Nat) : Int) by simp [ints, hqx]] at c0
                      rw [show (ints w).getD (q + 1) 0 = ((w[q + 1] : Nat) : Int) by simp [ints, hqy]] at c1
                      obtain ⟨x, hx⟩ : ∃ x, x = w[q] := ⟨_, rfl⟩
                      obtain ⟨y, hy⟩ : ∃ y, y = w[q + 1] := ⟨_, rfl⟩
                      rw [← hx] at c0
                      rw [← hy] at c1
                      obtain ⟨c, hce⟩ : ∃ c, c = M2 j := ⟨_, rfl⟩
                      have c2 : wr.cell? ⟨mb, j, none⟩ = some (.bool c) := by rw [hce]; exact HM.out.cell hlt
                      have f2 : wr.frozen? ⟨mb, j, none⟩ = false := HM.out.frozen j
                      have HST := Lib.hid (show ∀ r : Bool, r = (c || (decide (u = x) && decide (v = y))) → RowKit.Hid (MetI (natE es) w q (j + 1) M (upd M2 j r)) ∧ RowKit.Hid (LastAt mb w (some ⟨b, o, none⟩) (wr.drew.setCell ⟨mb, j, none⟩ (.bool r))) ∧ RowKit.Hid ((wr.drew.setCell ⟨mb, j, none⟩ (.bool r)).rowIs mb 4 es.length (fun v => .bool (upd M2 j r v))) ∧ RowKit.Hid (Below W.heap.size W (wr.drew.setCell ⟨mb, j, none⟩ (.bool r))) from fun r hr => by
                        refine ⟨Lib.hid ?_, Lib.hid ?_, Lib.hid ?_, Lib.hid ?_⟩
                        · rw [hr, hce]
                          refine HMI.out.step _ ?_
                          rw [hek, Bool.and_eq_true, decide_eq_true_eq, decide_eq_true_eq]
                          unfold PairAt
                          rw [List.getElem?_eq_getElem hqx, List.getElem?_eq_getElem hqy, ← hx, ← hy]
                          simp only [Option.some.injEq]
                          exact ⟨fun h => ⟨h.1.symm, h.2.symm⟩, fun h => ⟨h.1.symm, h.2.symm⟩⟩
                        · exact LastAt.set (w := wr.drew) HLB.out j _
                        · exact (World.rowIs.set (w := wr.drew) HM.out j (.bool r)).congr (fun i _ => by unfold upd; split <;> rfl)
                        · exact (Below.drew HB.out).setCell (p := ⟨mb, j, none⟩) HMB.out _)
                      have hqe2 : IntKind.i64.wrap ((q : Int) + 1 - 1) = (q : Int) := by rw [show (q : Int) + 1 - 1 = (q : Int) by omega]; exact IntWalk.i64_in _ (by have := HWM.out; omega)
                      have hqe3 : IntKind.i64.wrap (q : Int) = (q : Int) := IntWalk.i64_in _ (by have := HWM.out; omega)
                      have h3 : (q : Int) < (m : Int) + 1 := by omega
                      have h4 : (0 : Int) ≤ (q : Int) := by omega
                      have h5 : (0 : Int) ≤ (q : Int) + 1 := by omega
                      have hjl : (j : Int) < (es.length : Int) := by omega
                      have hj0 : (0 : Int) ≤ (j : Int) := by omega
                      clear hmem hq hu hv hek hx hy hce HLB HM HB
                      cases c
                      · by_cases hux : u = x
                        · subst hux
                          by_cases hvy : v = y
                          · subst hvy
                            go_upto_region 31 with fail
                            refine wp_region_still_tail 32 (by kernel_rfl) (by kernel_rfl) ?_
                            simp only [List.take_succ_cons, List.take_zero, List.drop_succ_cons, List.drop_zero]
                            repeat (first | (with_reducible refine wpStill_step (fun K hK => ?_); go_simp; with_reducible refine hK _ ?_; clear hK K) | (with_reducible refine still_skip (by kernel_rfl) ?_; go_simp))
                            with_reducible refine wpStill_nil ?_
                            change wpList _ _ _ _ _ wr.drew
                            have e1 : wr.drew.cell? ⟨mb, j, none⟩ = some (.bool false) := c2
                            have e2 : wr.drew.frozen? ⟨mb, j, none⟩ = false := f2
                            have E3 := Lib.hid (HST.out true (by simp))
                            clear HST
                            generalize wr.drew = wd at e1 e2 E3 ⊢
                            clear c0 c1 c2 f2 hc1 hc2
                            go_wp2_with fail
                            go_roundw
                            case rel => exact ⟨j + 1, _, by go_num, by omega, E3.out.1, E3.out.2.1, E3.out.2.2.1, E3.out.2.2.2⟩
                            case measure => simp [intOf]; omega
                          · have b1 : ((v : Int) == (y : Int)) = false := by rw [beq_eq_false_iff_ne]; omega
                            have b2 : (v == y) = false := by rw [beq_eq_false_iff_ne]; exact hvy
                            have b3 : decide (v = y) = false := decide_eq_false hvy
                            have b4 : decide ((v : Int) = (y : Int)) = false := by rw [decide_eq_false_iff_not]; omega
                            go_upto_region 31 with fail
                            refine wp_region_still_tail 32 (by kernel_rfl) (by kernel_rfl) ?_
                            simp only [List.take_succ_cons, List.take_zero, List.drop_succ_cons, List.drop_zero]
                            repeat (first | (with_reducible refine wpStill_step (fun K hK => ?_); go_simp; with_reducible refine hK _ ?_; clear hK K) | (with_reducible refine still_skip (by kernel_rfl) ?_; go_simp))
                            with_reducible refine wpStill_nil ?_
                            change wpList _ _ _ _ _ wr.drew
                            have e1 : wr.drew.cell? ⟨mb, j, none⟩ = some (.bool false) := c2
                            have e2 : wr.drew.frozen? ⟨mb, j, none⟩ = false := f2
                            have E3 := Lib.hid (HST.out false (by simp [hvy]))
                            clear HST
                            generalize wr.drew = wd at e1 e2 E3 ⊢
                            clear c0 c1 c2 f2 hc1 hc2
                            go_wp2_with fail
                            go_roundw
                            case rel => exact ⟨j + 1, _, by go_num, by omega, E3.out.1, E3.out.2.1, E3.out.2.2.1, E3.out.2.2.2⟩
                            case measure => simp [intOf]; omega
                        · have b1 : ((u : Int) == (x : Int)) = false := by rw [beq_eq_false_iff_ne]; omega
                          have b2 : (u == x) = false := by rw [beq_eq_false_iff_ne]; exact hux
                          have b3 : decide (u = x) = false := decide_eq_false hux
                          have b4 : decide ((u : Int) = (x : Int)) = false := by rw [decide_eq_false_iff_not]; omega
                          go_upto_region 31 with fail
                          refine wp_region_still_tail 32 (by kernel_rfl) (by kernel_rfl) ?_
                          simp only [List.take_succ_cons, List.take_zero, List.drop_succ_cons, List.drop_zero]
                          repeat (first | (with_reducible refine wpStill_step (fun K hK => ?_); go_simp; with_reducible refine hK _ ?_; clear hK K) | (with_reducible refine still_skip (by kernel_rfl) ?_; go_simp))
                          with_reducible refine wpStill_nil ?_
                          change wpList _ _ _ _ _ wr.drew
                          have e1 : wr.drew.cell? ⟨mb, j, none⟩ = some (.bool false) := c2
                          have e2 : wr.drew.frozen? ⟨mb, j, none⟩ = false := f2
                          have E3 := Lib.hid (HST.out false (by simp [hux]))
                          clear HST
                          generalize wr.drew = wd at e1 e2 E3 ⊢
                          clear c0 c1 c2 f2 hc1 hc2
                          go_wp2_with fail
                          go_roundw
                          case rel => exact ⟨j + 1, _, by go_num, by omega, E3.out.1, E3.out.2.1, E3.out.2.2.1, E3.out.2.2.2⟩
                          case measure => simp [intOf]; omega
                      · go_upto_region 31 with fail
                        refine wp_region_still_tail 32 (by kernel_rfl) (by kernel_rfl) ?_
                        simp only [List.take_succ_cons, List.take_zero, List.drop_succ_cons, List.drop_zero]
                        repeat (first | (with_reducible refine wpStill_step (fun K hK => ?_); go_simp; with_reducible refine hK _ ?_; clear hK K) | (with_reducible refine still_skip (by kernel_rfl) ?_; go_simp))
                        with_reducible refine wpStill_nil ?_
                        change wpList _ _ _ _ _ wr.drew
                        have e1 : wr.drew.cell? ⟨mb, j, none⟩ = some (.bool true) := c2
                        have e2 : wr.drew.frozen? ⟨mb, j, none⟩ = false := f2
                        have E3 := Lib.hid (HST.out true (by simp))
                        clear HST
                        generalize wr.drew = wd at e1 e2 E3 ⊢
                        clear c0 c1 c2 f2 hc1 hc2
                        go_wp2_with fail
                        go_roundw
                        case rel => exact ⟨j + 1, _, by go_num, by omega, E3.out.1, E3.out.2.1, E3.out.2.2.1, E3.out.2.2.2⟩
                        case measure => simp [intOf]; omega
                    · obtain rfl : j = es.length := by omega
                      have HQ2 := Lib.hid (show MetQ (natE es) w (q + 1) M M2 from MetI.out (by rw [show (natE es).length = es.length by simp [natE]]; exact HMI.out))
                      clear HMI
                      go_wp2_with fail
                      go_roundw
                      case rel => exact ⟨q + 1, M2, by go_num, by omega, HQ2, HLB, HM, HB⟩
                      case measure => simp [intOf]; omega
                · obtain rfl : q = m := by omega
                  have HMP2 := Lib.hid (MetQ.next HMP.out HMQ.out HKW.out HWM.out)
                  clear HMQ
                  go_wp2_with fail
                  go_roundw
                  case rel => exact ⟨k + 1, cap2, w, some ⟨b, o, none⟩, M1, by go_num, by rw [HWM.out], by omega, Lib.hid (.inr ⟨k, rfl, HKW.out⟩), Lib.hid ⟨HLB.out, by rw [HWM.out]; exact HCP.out⟩, HM, HMP2, HB⟩
                  case measure => simp [intOf]; omega
        · obtain rfl : k = z := by omega
          have HFIN := Lib.hid (show ∀ j, j < es.length → (M j = true ↔ Rch (natE es) 0 (Ej (natE es) j).1 ∧ Rch (natE es) (Ej (natE es) j).2 (N - 1)) from fun j hj => MetP.fin (by rw [← HZ.out]; exact HMP.out) HES.out (HGD.out 0) (by omega) (by simpa [natE] using hj))
          clear HLA HQ HMP
          go_wp2_with fail
          go_loopw [18] (fun jv wr => ∃ j : Nat, jv = .int .i64 (j : Int) ∧ j ≤ es.length ∧ RowKit.Hid (wr.rowIs mb 4 es.length (fun v => .bool (M v))) ∧ RowKit.Hid (Below W.heap.size W wr)) (fun jv _ => es.length - (intOf jv).toNat)
          case atStart => exact ⟨0, rfl, by omega, HM, HB⟩
          clear HM HB
          case round =>
            obtain ⟨j, rfl, hj, hm, hb⟩ := hrel
            have HM := Lib.hid hm.out
            have HB := Lib.hid hb.out
            clear hm hb
            by_cases hlt : j < es.length
            · have HX1 := HX.out _ HB.out
              obtain ⟨eb, eo, rfl, hc1, hc2⟩ := HX1 j hlt
              have hmem : es.getD j (0, 0) ∈ es := by simp [hlt]
              have hq := HOK.out.1.2.2.2 _ hmem
              obtain ⟨u, hu⟩ : ∃ u : Nat, (es.getD j (0, 0)).1 = u := ⟨(es.getD j (0, 0)).1.toNat, by omega⟩
              obtain ⟨v, hv⟩ : ∃ v : Nat, (es.getD j (0, 0)).2 = v := ⟨(es.getD j (0, 0)).2.toNat, by omega⟩
              rw [hu] at hc1
              rw [hv] at hc2
              have hek : Ej (natE es) j = (u, v) := by
                unfold Ej natE
                have e : es.getD j (0, 0) = es[j] := by simp [hlt]
                rw [e] at hu hv
                simp [hlt, hu, hv]
              have hun : u < N := by omega
              have hvn : v < N := by omega
              obtain ⟨c, hce⟩ : ∃ c, c = M j := ⟨_, rfl⟩
              have c2 : wr.cell? ⟨mb, j, none⟩ = some (.bool c) := by rw [hce]; exact HM.out.cell hlt
              have HON := Lib.hid (show ∀ w, Below W.heap.size W w → Calls Try.prog 8 #[.int .i64 N, .slice (some ⟨eb, eo, none⟩) es.length lc, .agg #[.int .i64 u, .int .i64 v]] w fun e w' => e = .returned (.bool c) ∧ Below w.heap.size w w' from fun w hb =>
                (onWay_any N es (some ⟨eb, eo, none⟩) lc u v w (HX.out w hb) HOK.out.1 hun hvn HGD.out).mono fun e w' ⟨r, h1, h2, h3⟩ => ⟨by
                  have h4 := HFIN.out j hlt
                  rw [hek, ← hce] at h4
                  rw [h1, show r = c from Bool.eq_iff_iff.2 (h2.trans h4.symm)], h3⟩)
              have hjl : (j : Int) < (es.length : Int) := by omega
              have hj0 : (0 : Int) ≤ (j : Int) := by omega
              have hb0 := HB.out
              have hb0d := Below.drew hb0
              have hm0 := HM.out
              have bcc : (c != c) = false := by cases c <;> rfl
              clear hmem hq hu hv hek hun hvn hce HX1
              go_upto_region 36 with fail
              go_cut [166] from 155 to 166 (fun bv wx => bv = .bool false ∧ RowKit.Hid (wx.rowIs mb 4 es.length (fun v => .bool (M v))) ∧ RowKit.Hid (Below W.heap.size W wx))
              case first =>
                go_region_held3 (fun w' => w'.cell? ⟨eb, eo + j * 2, none⟩ = some (.int .i64 (u : Int)) ∧ w'.cell? ⟨eb, eo + j * 2 + 1, none⟩ = some (.int .i64 (v : Int)) ∧ w'.cell? ⟨mb, j, none⟩ = some (.bool c))
                  (first | (go_keep; done) | ((try go_split_ands); refine ⟨?_, ?_, ?_⟩ <;> (first | assumption | (go_keep; done))))
                  (first
                    | ((go_at_call 8
                        (with_reducible refine (HON.out _ hb0d).mono ?_))
                       rintro e w9 ⟨rfl, hb9⟩
                       have hc91 := cell_call (w := wr.drew) (keep_drew hc1) hb9
                       have hc92 := cell_call (w := wr.drew) (keep_drew hc2) hb9
                       have hc93 := cell_call (w := wr.drew) (keep_drew c2) hb9
                       have hm9 := rowIs_call (w := wr.drew) (World.rowIs.drew hm0) hb9
                       have hb10 : Below W.heap.size W w9 := hb0d.trans (hb9.mono hb0d.size)))
                all_goals
                  go_wp2_with fail
                  go_meet
                  exact ⟨rfl, Lib.hid (by first | exact hm9 | exact hm0), Lib.hid (by first | exact hb10 | exact Below.drew hb10)⟩
              case rest =>
                obtain ⟨rfl, hm, hb⟩ := hcut
                go_wp2_with fail
                go_roundw
                case rel => exact ⟨j + 1, by go_num, by omega, hm, hb⟩
                case measure => simp [intOf]; omega
            · obtain rfl : j = es.length := by omega
              go_wp2_with fail
              go_ret
              exact ⟨rfl, HB.out⟩
end Go.Proofs.Ytppbaiilhaagdaa
