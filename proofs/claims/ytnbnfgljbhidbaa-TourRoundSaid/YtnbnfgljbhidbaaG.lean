import Derived.Test.YtnbnfgljbhidbaaF
namespace Go.Proofs.Ytnbnfgljbhidbaa
open Go.RowKit Go.Mine Go.Mine.Tour Go.Deep

theorem cnt_one (a b : Int) (l : List Int) : cnt a b (l.take 1) = 0 := by
  cases l with
  | nil => rfl
  | cons z t => rfl

set_option maxRecDepth 100000 in
set_option maxHeartbeats 1000000 in
theorem tourRound_walk (n : Int) (es : List (Int × Int)) (lo : Option Addr) (lc : Nat) (W : World) (hx : PairsAt W lo es) (hl : es.length ≤ maxLen) :
    Calls Try.prog 3 #[.int .i64 n, .slice lo es.length lc] W fun e w' => e = .returned (.bool true) ∧ Below W.heap.size W w' := by
  have HX := Lib.hid hx
  have HL := Lib.hid hl
  clear hx hl
  go_enter Try.func3, Try.ntmps3
  go_wp2_with fail
  refine (toured_true W).mono ?_
  rintro e w1 ⟨rfl, hb1⟩
  have HR := Lib.hid (round_any n es lo lc w1 (HX.out.below (Nat.le_refl _) hb1) HL.out)
  have HB1 := Lib.hid hb1
  clear hb1
  go_wp2_with fail
  refine HR.out.mono ?_
  rintro e w2 ⟨hp, hb2⟩
  have HB2 := Lib.hid (HB1.out.trans (hb2.mono HB1.out.size))
  rcases hp with ⟨_, c, rfl⟩ | ⟨_, _, rfl⟩ | ⟨hok, _, next, out, hend, hcase⟩
  · clear hb2
    go_wp2_with fail
    go_ret
    exact ⟨rfl, HB2.out⟩
  · clear hb2
    go_wp2_with fail
    go_ret
    exact ⟨rfl, HB2.out⟩
  · rcases hcase with ⟨_, rfl⟩ | ⟨hlen, ao, cap, rfl, hi⟩
    · clear hb2 hend hok
      go_wp2_with fail
      go_ret
      exact ⟨rfl, HB2.out⟩
    · have hfull := fun a b h1 h2 => hend.full hlen a b h1 h2
      have hlen2 : out.reverse.length = es.length + 1 := by rw [List.length_reverse]; exact hlen
      have hl30 := hok.2.2.1
      have hrange : ∀ j, j < es.length + 1 → 0 ≤ out.reverse.getD j 0 ∧ out.reverse.getD j 0 < n.toNat := by
        intro j hj
        refine hend.in_out _ ?_
        rw [← List.mem_reverse]
        simp [List.getD, show j < out.length by omega]
      have hfst : out.reverse.getD 0 0 = 0 := by
        have := hend.last
        rw [← List.head?_reverse] at this
        cases h : out.reverse with
        | nil => rw [h] at this; cases this
        | cons z t => rw [h] at this; simpa using this
      have hlst : out.reverse.getD es.length 0 = 0 := by
        have := hend.first
        rw [← List.getLast?_reverse, List.getLast?_eq_getElem?, hlen2] at this
        simp [List.getD] at this ⊢
        rw [this]; rfl
      obtain ⟨rev, hrev⟩ : ∃ rev, rev = out.reverse := ⟨_, rfl⟩
      rw [← hrev] at hi hfull hlen2 hrange hfst hlst
      rw [hlen]
      obtain ⟨bb, o, rfl, hcells⟩ := hi.plain (by omega)
      have hc0 := hcells 0 (by omega)
      have hcl := hcells es.length (by omega)
      rw [hfst, Nat.add_zero] at hc0
      rw [hlst] at hcl
      have HCE := Lib.hid hcells
      have HFU := Lib.hid hfull
      have HRG := Lib.hid hrange
      have HL2 := Lib.hid hlen2
      clear hcells hfull hlen2 hrange hfst hlst hi hrev hlen hend hok
      have HXE := Lib.hid (HX.out.below (Nat.le_refl _) HB2.out)
      clear hb2
      go_wp2_with fail
      go_loopw [8] (fun i wr => ∃ ii nd : Nat, i = .int .i64 ((ii + 1 : Nat) : Int) ∧ ii ≤ es.length ∧ wr = w2.drewN nd) (fun i _ => es.length + 1 - (intOf i).toNat)
      case atStart => exact ⟨0, 0, rfl, by omega, rfl⟩
      case round =>
        obtain ⟨ii, nd, rfl, hii, rfl⟩ := hrel
        by_cases hlt : ii < es.length
        · have hcx := HCE.out ii (by rw [HL2.out]; omega)
          have hcy := HCE.out (ii + 1) (by rw [HL2.out]; omega)
          have hfu := HFU.out (rev.getD ii 0) (rev.getD (ii + 1) 0) (HRG.out ii (by omega)).1 (HRG.out ii (by omega)).2
          obtain ⟨x, hx⟩ : ∃ x, x = rev.getD ii 0 := ⟨_, rfl⟩
          obtain ⟨y, hy⟩ : ∃ y, y = rev.getD (ii + 1) 0 := ⟨_, rfl⟩
          rw [← hx] at hcx hfu
          rw [← hy] at hcy hfu
          have HFUX := Lib.hid hfu
          have hi1 : ((ii + 1 : Nat) : Int) - 1 = (ii : Int) := by omega
          have hiw : IntKind.i64.wrap (ii : Int) = ii := by rw [IntKind.wrap_i64]; omega
          clear hx hy hfu
          go_wp2_with fail
          go_loopw [9, 11] (fun g t wr => ∃ k nd : Nat, t = .int .i64 ((k + 1 : Nat) : Int) ∧ k ≤ es.length ∧ g = .int .i64 (cnt x y (rev.take (k + 1)) : Nat) ∧ wr = w2.drewN nd) (fun _ t _ => es.length + 1 - (intOf t).toNat)
          case atStart => exact ⟨0, nd, rfl, by omega, by simp [cnt_one], rfl⟩
          case round =>
            obtain ⟨k, nd2, rfl, hk, rfl, rfl⟩ := hrel
            have hgle := cnt_le x y (rev.take (k + 1))
            rw [List.length_take] at hgle
            have hg31 : cnt x y (rev.take (k + 1)) ≤ 31 := by omega
            obtain ⟨g, hg⟩ : ∃ g, g = cnt x y (rev.take (k + 1)) := ⟨_, rfl⟩
            rw [← hg] at hg31 ⊢
            have HG := Lib.hid hg
            clear hgle
            by_cases hk2 : k < es.length
            · have hcu := HCE.out k (by rw [HL2.out]; omega)
              have hcv := HCE.out (k + 1) (by rw [HL2.out]; omega)
              have hct := cnt_take x y rev k (by rw [HL2.out]; omega)
              rw [← hg] at hct
              obtain ⟨u, hu⟩ : ∃ u, u = rev.getD k 0 := ⟨_, rfl⟩
              obtain ⟨v, hv⟩ : ∃ v, v = rev.getD (k + 1) 0 := ⟨_, rfl⟩
              rw [← hu] at hcu hct
              rw [← hv] at hcv hct
              have HCT := Lib.hid hct
              have hk1 : ((k + 1 : Nat) : Int) - 1 = (k : Int) := by omega
              have hkw : IntKind.i64.wrap (k : Int) = k := by rw [IntKind.wrap_i64]; omega
              clear hu hv hct hg
              by_cases e1 : u = x
              · have hd1 : (u == x) = true := by simpa using e1
                by_cases e2 : v = y
                · have hd2 : (v == y) = true := by simpa using e2
                  have HE := Lib.hid (And.intro e1 e2)
                  clear e1 e2
                  go_wp2_with fail
                  go_quiet (fail)
                  go_wp2_with fail
                  go_roundw
                  case rel => exact ⟨k + 1, _, by go_num, by omega, by rw [HCT.out, if_pos HE.out]; go_num, rfl⟩
                  case measure => simp [intOf]; omega
                · have hd2 : (v == y) = false := by simpa using e2
                  have HE := Lib.hid e2
                  clear e1 e2
                  go_wp2_with fail
                  go_quiet (fail)
                  go_wp2_with fail
                  go_roundw
                  case rel => exact ⟨k + 1, _, by go_num, by omega, by rw [HCT.out, if_neg (fun h => HE.out h.2), Nat.add_zero], rfl⟩
                  case measure => simp [intOf]; omega
              · have hd1 : (u == x) = false := by simpa using e1
                have HE := Lib.hid e1
                clear e1
                go_wp2_with fail
                go_quiet (fail)
                go_wp2_with fail
                go_roundw
                case rel => exact ⟨k + 1, _, by go_num, by omega, by rw [HCT.out, if_neg (fun h => HE.out h.1), Nat.add_zero], rfl⟩
                case measure => simp [intOf]; omega
            · have hke : k = es.length := by omega
              subst hke
              have hgx : g = cnt x y rev := by rw [hg, List.take_of_length_le (by rw [HL2.out]; exact Nat.le_refl _)]
              rw [← HFUX.out] at hgx
              have HGX := Lib.hid hgx
              clear hg hgx
              go_wp2_with fail
              go_loopw [10, 12] (fun q t wr => ∃ k nd : Nat, t = .int .i64 k ∧ k ≤ es.length ∧ q = .int .i64 ((es.take k).count (x, y) : Nat) ∧ wr = w2.drewN nd) (fun _ t _ => es.length - (intOf t).toNat)
              case atStart => exact ⟨0, nd2, rfl, by omega, by simp, rfl⟩
              case round =>
                obtain ⟨k, nd3, rfl, hk, rfl, rfl⟩ := hrel
                have hqle := List.count_le_length (a := (x, y)) (l := es.take k)
                rw [List.length_take] at hqle
                have hq31 : (es.take k).count (x, y) ≤ 31 := by omega
                obtain ⟨q, hq⟩ : ∃ q, q = (es.take k).count (x, y) := ⟨_, rfl⟩
                rw [← hq] at hq31 ⊢
                have HQ := Lib.hid hq
                clear hqle
                by_cases hk2 : k < es.length
                · obtain ⟨b0, o0, rfl, hc1, hc2⟩ := HXE.out k hk2
                  have hct := count_take (x, y) es k hk2
                  rw [← hq] at hct
                  obtain ⟨⟨u, v⟩, huv⟩ : ∃ e, e = es.getD k (0, 0) := ⟨_, rfl⟩
                  rw [← huv] at hc1 hc2 hct
                  simp only at hc1 hc2
                  have HCT := Lib.hid hct
                  clear huv hct hq
                  by_cases e1 : u = x
                  · have hd1 : (u == x) = true := by simpa using e1
                    by_cases e2 : v = y
                    · have hd2 : (v == y) = true := by simpa using e2
                      have HE := Lib.hid (And.intro e1 e2)
                      clear e1 e2
                      go_wp2_with fail
                      go_quiet (fail)
                      go_wp2_with fail
                      go_roundw
                      case rel => exact ⟨k + 1, _, by go_num, by omega, by rw [HCT.out, if_pos (by rw [HE.out.1, HE.out.2])]; go_num, rfl⟩
                      case measure => simp [intOf]; omega
                    · have hd2 : (v == y) = false := by simpa using e2
                      have HE := Lib.hid e2
                      clear e1 e2
                      go_wp2_with fail
                      go_quiet (fail)
                      go_wp2_with fail
                      go_roundw
                      case rel => exact ⟨k + 1, _, by go_num, by omega, by rw [HCT.out, if_neg (fun h => HE.out (Prod.mk.inj h).2), Nat.add_zero], rfl⟩
                      case measure => simp [intOf]; omega
                  · have hd1 : (u == x) = false := by simpa using e1
                    have HE := Lib.hid e1
                    clear e1
                    go_wp2_with fail
                    go_quiet (fail)
                    go_wp2_with fail
                    go_roundw
                    case rel => exact ⟨k + 1, _, by go_num, by omega, by rw [HCT.out, if_neg (fun h => HE.out (Prod.mk.inj h).1), Nat.add_zero], rfl⟩
                    case measure => simp [intOf]; omega
                · have hke : k = es.length := by omega
                  subst hke
                  have hqg : q = g := by rw [hq, List.take_length, HGX.out]
                  subst hqg
                  clear hq
                  go_wp2_with fail
                  go_roundw
                  case rel => exact ⟨ii + 1, _, by go_num, by omega, rfl⟩
                  case measure => simp [intOf]; omega
        · have hie : ii = es.length := by omega
          subst hie
          go_wp2_with fail
          go_ret
          exact ⟨rfl, below_drewN HB2.out _⟩
end Go.Proofs.Ytnbnfgljbhidbaa
