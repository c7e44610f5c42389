/- TourWalks' walk, where what is walked is no longer than a million. -/
import Derived.Test.YtnbnfgljbhidbaaI
import Derived.Deep.CutRange
namespace Go.Proofs.Ytnbnfgljbhidbaa
open Go.RowKit Go.Mine Go.Mine.Tour Go.Deep

theorem info30 : (Try.prog.info? 30).map (fun i => (i.zero, i.size, i.bytes)) = some (some (.agg #[.int .i64 0, .int .i64 0]), 2, 16) := by kernel_rfl

theorem lastOf_take (w : List Int) (k : Nat) (hk : k + 1 ≤ w.length) : lastOf 0 (w.take (k + 1)) = w.getD k 0 := by
  rw [List.take_succ_eq_append_getElem (by omega), lastOf_snoc]
  simp [show k < w.length by omega]
theorem lastOf_all (w : List Int) (k : Nat) (hk : w.length = k + 1) : lastOf 0 w = w.getD k 0 := by
  have := lastOf_take w k (by omega)
  rwa [List.take_of_length_le (by omega)] at this
theorem pre_take (w : List Int) (k : Nat) (hk : k < w.length) : pre 0 (w.take (k + 1)) = pre 0 (w.take k) ++ [(lastOf 0 (w.take k), w.getD k 0)] := by
  rw [List.take_succ_eq_append_getElem hk, pre_snoc]
  simp [hk]

/-- What is left to show behind the walk's edges. -/
theorem round_chain (n : Int) (es : List (Int × Int)) (lo : Option Addr) (lc : Nat) (W : World) (hx : PairsAt W lo es) (hl : es.length ≤ maxLen) (hw : Walk 0 es) (hb : ∀ N, Bal N es) :
    Calls Try.prog 6 #[.int .i64 n, .slice lo es.length lc] W fun e w' => (∃ v x, e = .returned (.tuple #[v, x]) ∧ ((x = .nilIface ∧ ∃ ao c, v = .slice ao (es.length + 1) c) ∨ (¬ ok n es ∧ ∃ k, x = .iface 37 (.int .i64 k)))) ∧ Below W.heap.size W w' := by
  refine (round_any n es lo lc W hx hl).mono ?_
  rintro e w' ⟨hp, hb'⟩
  refine ⟨?_, hb'⟩
  rcases hp with ⟨hno, c, rfl⟩ | ⟨_, h, _⟩ | ⟨hok, _, next, out, hend, hcase⟩
  · exact ⟨_, _, rfl, .inr ⟨hno, c, rfl⟩⟩
  · exact absurd (hb _) h
  · have hlen := hend.walked hw (fun e he => by have := hok.2.2.2 e he; have := hok.1; omega)
    rcases hcase with ⟨h, _⟩ | ⟨_, ao, cap, rfl, _⟩
    · exact absurd hlen h
    · rw [hlen]
      exact ⟨_, _, rfl, .inl ⟨rfl, ao, cap, rfl⟩⟩
theorem check_not (n : Int) (es : List (Int × Int)) (lo : Option Addr) (lc : Nat) (W : World) (hx : PairsAt W lo es) (hl : es.length ≤ maxLen) (hno : ¬ ok n es) :
    Calls Try.prog 8 #[.int .i64 n, .slice lo es.length lc] W fun e w' => (∃ c, e = .returned (.iface 37 (.int .i64 c))) ∧ Below W.heap.size W w' := by
  refine (check_any n es lo lc W hx hl).mono ?_
  rintro e w' ⟨⟨h, _⟩ | ⟨_, c, rfl⟩, hb⟩
  · exact absurd h hno
  · exact ⟨⟨c, rfl⟩, hb⟩

set_option maxRecDepth 100000 in
set_option maxHeartbeats 1000000 in
theorem tourWalks_walk (n : Int) (w : List Int) (ao : Option Addr) (ac : Nat) (es : List (Int × Int)) (lo : Option Addr) (lc : Nat) (W : World) (hw : IntsAt .i64 W ao w) (hwl : w.length ≤ 1048576) (hx : PairsAt W lo es) (hl : es.length ≤ maxLen) :
    Calls Try.prog 4 #[.int .i64 n, .slice ao w.length ac, .slice lo es.length lc] W fun e w' => e = .returned (.bool true) ∧ Below W.heap.size W w' := by
  have HX := Lib.hid hx
  have HL := Lib.hid hl
  have HW := Lib.hid hw
  clear hx hl hw
  obtain ⟨i1, hi1, hy0, hy1, hy2⟩ := info_parts info30
  go_enter Try.func4, Try.ntmps4
  go_wp2_with fail
  refine (toured_true W).mono ?_
  rintro e w1 ⟨rfl, hb1⟩
  have HO := Lib.hid (off_val n es lo lc w1 (HX.out.below (Nat.le_refl _) hb1) HL.out)
  have HB1 := Lib.hid hb1
  clear hb1
  go_wp2_with fail
  refine HO.out.mono ?_
  rintro e w2 ⟨⟨a8, c8, xs, x9, rfl, hxs, hx12, hx30, hsum, hx9⟩, hb2⟩
  have HB2 := Lib.hid (HB1.out.trans (hb2.mono HB1.out.size))
  have HXS := Lib.hid hxs
  have HX30 := Lib.hid hx30
  have HSUM := Lib.hid hsum
  have HX9 := Lib.hid hx9
  clear hb2 hxs hx30 hsum hx9
  go_wp2_with fail
  go_loop [10, 11] (fun s i => ∃ k : Nat, i = .int .i64 k ∧ k ≤ xs.length ∧ s = .int .i64 (xs.take k).sum) (fun _ i => xs.length - (intOf i).toNat)
  case atStart => exact ⟨0, rfl, by omega, by simp⟩
  case round =>
    obtain ⟨k, rfl, hk, rfl⟩ := hrel
    have hsb := sum_small (xs.take k) (fun x hx => HX30.out x (List.mem_of_mem_take hx))
    rw [List.length_take] at hsb
    have hsb2 : -400 ≤ (xs.take k).sum ∧ (xs.take k).sum ≤ 400 := by omega
    obtain ⟨s, hs⟩ : ∃ s, s = (xs.take k).sum := ⟨_, rfl⟩
    rw [← hs] at hsb2 ⊢
    have HS := Lib.hid hs
    clear hsb hs
    by_cases hlt : k < xs.length
    · obtain ⟨b, o, rfl, hc⟩ := HXS.out k hlt
      have hst := sum_take xs k hlt
      have hz30 := HX30.out (xs.getD k 0) (by simp [hlt])
      rw [← HS.out] at hst
      obtain ⟨z, hz⟩ : ∃ z, z = xs.getD k 0 := ⟨_, rfl⟩
      rw [← hz] at hc hst hz30
      have HST := Lib.hid hst
      clear hst hz
      go_wp2_with fail
      go_round
      case rel => exact ⟨k + 1, by go_num, by omega, by rw [HST.out]⟩
      case measure => simp [intOf]; omega
    · have hke : k = xs.length := by omega
      subst hke
      have hs0 : s = 0 := by rw [HS.out, List.take_length, HSUM.out]
      subst hs0
      clear hsb2
      go_upto_region 10 with fail
      go_cut [49] from 38 to 48 (fun b wx => b = .bool false ∧ w2 = wx)
      case first =>
        rcases HX9.out with ⟨rfl, hn⟩ | ⟨c, rfl⟩
        · subst hn
          go_wp2_with fail
          go_meet
          exact ⟨rfl, rfl⟩
        · go_wp2_with fail
          go_meet
          exact ⟨rfl, rfl⟩
      case rest =>
        obtain ⟨rfl, rfl⟩ := hcut
        have HW2 := Lib.hid (HW.out.below (Nat.le_refl _) HB2.out)
        clear hx12
        go_wp2_with fail
        go_loopw [12, 13] (fun v i wr => ∃ k : Nat, i = .int .i64 k ∧ k ≤ w.length ∧ wr.ownsRow w2.heap.size 30 2 v k (two (pre 0 (w.take k))) ∧ Below w2.heap.size w2 wr) (fun _ i _ => w.length - (intOf i).toNat)
        case atStart => exact ⟨0, rfl, by omega, World.ownsRow_nil _ _ _ _, Below.refl _ _⟩
        case round =>
          obtain ⟨k, rfl, hk, ho, hb⟩ := hrel
          have hsz := hb.size
          by_cases hlt : k < w.length
          · obtain ⟨b, o, rfl, hc⟩ := HW2.out.below (Nat.le_refl _) hb k hlt
            have hpt := pre_take w k hlt
            obtain ⟨y, hy⟩ : ∃ y, y = w.getD k 0 := ⟨_, rfl⟩
            rw [← hy] at hc hpt
            clear hy
            cases k with
            | zero =>
              rw [List.take_zero] at hpt
              rw [Nat.add_zero] at hc
              have HPT := Lib.hid hpt
              clear hpt
              go_wp2_with (at_builtin; refine wpList_push _ rfl (.tmp 63) (.tmp 70) 22 rfl w2.heap.size 30 i1 (.agg #[.int .i64 0, .int .i64 0]) 2 16 Try.underlying22 hi1 hy0 hy1 hy2 rfl (by decide) _ _ _ rfl (ho.alloc _) ⟨wr.heap.size, 0, none⟩ 1 [.int .i64 0, .int .i64 y] rfl rfl (World.news_of_block (cs := #[.int .i64 0, .int .i64 y]) (t := 30) (fr := (0, 0)) (heap_alloc_new wr _)) (one2 _ _ _ _) (by unfold maxLen; omega) (by omega) (by simp; omega) ?_)
              intro g1 cap w4 ho4 hg4
              have hb4 := Lib.hid ((hb.alloc hsz (.cells #[.int .i64 0, .int .i64 y] 30)).grown hg4 (by simp; omega) (fun k hk => (ho.lt k hk).1))
              clear ho hb hg4
              go_wp2_with fail
              go_roundw
              case rel => exact ⟨0 + 1, by go_num, by omega, by rw [HPT.out, two_append]; simpa [two, lastOf, pre] using ho4, hb4.out⟩
              case measure => simp [intOf]; omega
            | succ k =>
              rw [lastOf_take w k (by omega)] at hpt
              have hcx := HW2.out.below (Nat.le_refl _) hb k (by omega)
              obtain ⟨b', o', he, hcx⟩ := hcx
              simp only [Option.some.injEq, Addr.mk.injEq, and_true] at he
              obtain ⟨rfl, rfl⟩ := he
              obtain ⟨x, hx⟩ : ∃ x, x = w.getD k 0 := ⟨_, rfl⟩
              rw [← hx] at hcx hpt
              have HPT := Lib.hid hpt
              clear hx hpt
              go_wp2_with (at_builtin; refine wpList_push _ rfl (.tmp 63) (.tmp 70) 22 rfl w2.heap.size 30 i1 (.agg #[.int .i64 0, .int .i64 0]) 2 16 Try.underlying22 hi1 hy0 hy1 hy2 rfl (by decide) _ _ _ rfl (ho.alloc _) ⟨wr.heap.size, 0, none⟩ 1 [.int .i64 x, .int .i64 y] rfl rfl (World.news_of_block (cs := #[.int .i64 x, .int .i64 y]) (t := 30) (fr := (0, 0)) (heap_alloc_new wr _)) (one2 _ _ _ _) (by unfold maxLen; omega) (by omega) (by simp; omega) ?_)
              intro g1 cap w4 ho4 hg4
              have hb4 := Lib.hid ((hb.alloc hsz (.cells #[.int .i64 x, .int .i64 y] 30)).grown hg4 (by simp; omega) (fun k hk => (ho.lt k hk).1))
              clear ho hb hg4
              go_wp2_with fail
              go_roundw
              case rel => exact ⟨k + 1 + 1, by go_num, by omega, by rw [HPT.out, two_append]; simpa [two, lastOf, pre] using ho4, hb4.out⟩
              case measure => simp [intOf]; omega
          · have hke : k = w.length := by omega
            subst hke
            rw [List.take_length] at ho
            obtain ⟨a12, c12, rfl⟩ := owns_shape ho
            have HB3 := Lib.hid (HB2.out.trans (hb.mono HB2.out.size))
            by_cases hw0 : w.length = 0
            · have hwn : w = [] := List.eq_nil_of_length_eq_zero hw0
              have RC := Lib.hid (round_chain n [] a12 c12 wr (PairsAt.nil _ _) (by unfold maxLen; simp) trivial (fun N v _ _ => rfl))
              have CN := fun w' => check_not n [] a12 c12 w' (PairsAt.nil _ _) (by unfold maxLen; simp)
              have HCN := Lib.hid CN
              clear CN hwn ho hb
              go_wp2_with fail
              refine RC.out.mono ?_
              rintro e w5 ⟨⟨v, x, rfl, hvx⟩, hb5⟩
              have HB5 := Lib.hid (HB3.out.trans (hb5.mono HB3.out.size))
              clear hb5
              rcases hvx with ⟨rfl, a15, c15, rfl⟩ | ⟨hno, c, rfl⟩
              · go_wp2_with fail
                go_ret
                exact ⟨rfl, HB5.out⟩
              · have C := HCN.out w5 hno
                clear hno
                go_wp2_with fail
                refine C.mono ?_
                rintro e w6 ⟨⟨c, rfl⟩, hb6⟩
                have HB6 := Lib.hid (HB5.out.trans (hb6.mono HB5.out.size))
                clear hb6 C
                go_wp2_with fail
                go_ret
                exact ⟨rfl, HB6.out⟩
            · obtain ⟨m, hm⟩ : ∃ m, w.length = m + 1 := ⟨w.length - 1, by omega⟩
              obtain ⟨b, o, rfl, hc⟩ := HW2.out.below (Nat.le_refl _) hb m (by omega)
              have hla := lastOf_all w m hm
              have hcl : (chain 0 w).length = m + 1 + 1 := by unfold chain; rw [List.length_append, pre_len, hm]; rfl
              obtain ⟨x, hx⟩ : ∃ x, x = w.getD m 0 := ⟨_, rfl⟩
              rw [← hx] at hc hla
              have HCH : RowKit.Hid (two (pre 0 w) ++ [Value.int .i64 x, .int .i64 0] = two (chain 0 w)) := Lib.hid (by unfold chain; rw [two_append, hla]; rfl)
              have hsz := hb.size
              have hb' := HB3.out.size
              rw [hm] at ho hwl ⊢
              have HCL := Lib.hid hcl
              clear hx hla hw0 hm hcl
              go_wp2_with (at_builtin; refine wpList_push _ rfl (.tmp 75) (.tmp 83) 22 rfl w2.heap.size 30 i1 (.agg #[.int .i64 0, .int .i64 0]) 2 16 Try.underlying22 hi1 hy0 hy1 hy2 rfl (by decide) _ _ _ rfl (ho.alloc _) ⟨wr.heap.size, 0, none⟩ 1 [.int .i64 x, .int .i64 0] rfl rfl (World.news_of_block (cs := #[.int .i64 x, .int .i64 0]) (t := 30) (fr := (0, 0)) (heap_alloc_new wr _)) (one2 _ _ _ _) (by unfold maxLen; omega) (by omega) (by simp; omega) ?_)
              intro g1 cap w4 ho4 hg4
              have hb4 := (hb.alloc hsz (.cells #[.int .i64 x, .int .i64 0] 30)).grown hg4 (by simp; omega) (fun k hk => (ho.lt k hk).1)
              rw [HCH.out] at ho4
              have hp4 := PairsAt.of_owns ho4
              have HB4 := Lib.hid (HB2.out.trans (hb4.mono HB2.out.size))
              have RC := round_chain n (chain 0 w) (some ⟨g1, 0, none⟩) cap w4 hp4 (by rw [HCL.out]; unfold maxLen; omega) (walk_chain 0 w) (fun N => bal_chain N w)
              have HCN : RowKit.Hid (∀ w', Below w4.heap.size w4 w' → ¬ ok n (chain 0 w) → Calls Try.prog 8 #[.int .i64 n, .slice (some ⟨g1, 0, none⟩) (m + 1 + 1) cap] w' fun e w'' => (∃ c, e = .returned (.iface 37 (.int .i64 c))) ∧ Below w'.heap.size w' w'') := by
                refine Lib.hid fun w' hbb hno => ?_
                have := check_not n (chain 0 w) (some ⟨g1, 0, none⟩) cap w' (hp4.below (Nat.le_refl _) hbb) (by rw [HCL.out]; unfold maxLen; omega) hno
                rwa [HCL.out] at this
              rw [HCL.out] at RC
              have HRC := Lib.hid RC
              clear ho hb hg4 ho4 hp4 hb4 RC
              go_wp2_with fail
              refine HRC.out.mono ?_
              rintro e w5 ⟨⟨v, x5, rfl, hvx⟩, hb5⟩
              have HB5 := Lib.hid (HB4.out.trans (hb5.mono HB4.out.size))
              rcases hvx with ⟨rfl, a15, c15, rfl⟩ | ⟨hno, c, rfl⟩
              · clear hb5
                go_wp2_with fail
                go_ret
                exact ⟨rfl, HB5.out⟩
              · have C := HCN.out w5 hb5 hno
                clear hno hb5
                go_wp2_with fail
                refine C.mono ?_
                rintro e w6 ⟨⟨c, rfl⟩, hb6⟩
                have HB6 := Lib.hid (HB5.out.trans (hb6.mono HB5.out.size))
                clear hb6 C
                go_wp2_with fail
                go_ret
                exact ⟨rfl, HB6.out⟩
end Go.Proofs.Ytnbnfgljbhidbaa
