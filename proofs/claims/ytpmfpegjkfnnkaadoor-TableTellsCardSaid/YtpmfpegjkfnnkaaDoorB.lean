/- TableClash's walk. -/
import Derived.Test.YtpmfpegjkfnnkaaDoorA
import Derived.Test.YtpmfpegjkfnnkaaDoorRulesOwn
import Derived.Test.YtpmfpegjkfnnkaaDoorMore
import Derived.StillTailTactics
import Derived.Deep.RegionWith
namespace Go.Proofs.YtpmfpegjkfnnkaaDoor
open Go.RowKit Go.Mine Go.Mine.Table

theorem infoR : (Tryd.prog.info? 35).map (fun i => (i.zero, i.size, i.bytes)) = some (some (.agg #[.slice none 0 0, .int .i64 0]), 2, 32) := by kernel_rfl
theorem tok_mem {n : Int} {ws : List (List Int)} : tok n ws ↔ ∃ m : Nat, n = m ∧ 1 ≤ m ∧ m ≤ 6 ∧ ws.length ≤ 12 ∧ ∀ w ∈ ws, rf m w = 0 := by
  constructor
  · rintro ⟨m, h1, h2, h3, h4, h5⟩
    refine ⟨m, h1, h2, h3, h4, fun w hw => ?_⟩
    obtain ⟨j, hj, rfl⟩ := List.mem_iff_getElem.1 hw
    have := h5 j hj
    simpa [hj] using this
  · rintro ⟨m, h1, h2, h3, h4, h5⟩
    exact ⟨m, h1, h2, h3, h4, fun j hj => h5 _ (by simp [hj])⟩
theorem tok_rev {n : Int} {rs : List Rl} : tok n (rs.reverse.map Rl.when) ↔ tok n (rs.map Rl.when) := by
  rw [tok_mem, tok_mem]
  simp
theorem rev_take {rs : List Rl} {k : Nat} (h : k < rs.length) : rs.reverse.take (k + 1) = rs.reverse.take k ++ [rs.getD (rs.length - 1 - k) default] := by
  rw [List.take_succ_eq_append_getElem (by simpa using h)]
  congr 1
  rw [List.getElem_reverse]
  simp [show rs.length - 1 - k < rs.length by omega]
theorem cell_two_new (w : World) (a b : Value) (t : TypeId) : ∀ j u, [a, b][j]? = some u → (w.alloc (.cells #[a, b] t)).cell? ((⟨w.heap.size, 0, none⟩ : Addr).add j) = some u := by
  intro j u hu
  match j with
  | 0 => simp at hu; subst hu; simp [go_sem, Addr.add]
  | 1 => simp at hu; subst hu; simp [go_sem, Addr.add]
  | j + 2 => simp at hu
theorem two1 (r : Rl) : ∀ u ∈ [Value.slice r.sa r.when.length r.cap, .int .i64 r.to], u.oneCell' = true := by intro u hu; simp at hu; rcases hu with rfl | rfl <;> rfl

/-- What Which tells of a list and of the same from behind, where none clash. -/
theorem which_same {n t : Int} {rs : List Rl} {e e' : Ending} (hok : tok n (rs.map Rl.when)) (hcl : ∀ i k, i < k → k < rs.length → cl rs i k = false) (h : WhichPost n rs t e) (h' : WhichPost n rs.reverse t e') :
    ∃ (a : Int) (ev : Value) (c : Int), Num ev c ∧ e = .returned (.tuple #[.int .i64 a, ev]) ∧ e' = .returned (.tuple #[.int .i64 a, ev]) := by
  have hok' := tok_rev.2 hok
  have hrev : ∀ k, k < rs.reverse.length → ∃ j, j < rs.length ∧ rs.reverse.getD k default = rs.getD j default := fun k hk => by
    have hk' : k < rs.length := by simpa using hk
    exact ⟨rs.length - 1 - k, by omega, by simp [hk', show rs.length - 1 - k < rs.length by omega]⟩
  obtain ⟨m, hm, _, _, _, hall⟩ := hok
  rcases h with ⟨h, _⟩ | ⟨_, h2, rfl⟩ | ⟨_, h2, h3, rfl⟩ | ⟨_, h2, k, hk, hf, _, rfl⟩
  · exact absurd ⟨m, hm, by omega, by omega, by omega, hall⟩ h
  · rcases h' with ⟨g, _⟩ | ⟨_, _, rfl⟩ | ⟨_, g, _⟩ | ⟨_, g, _⟩
    · exact absurd hok' g
    · exact ⟨_, _, _, .inr rfl, rfl, rfl⟩
    · exact absurd g h2
    · exact absurd g h2
  · rcases h' with ⟨g, _⟩ | ⟨_, g, _⟩ | ⟨_, _, _, rfl⟩ | ⟨_, _, k, hk, hf, _, rfl⟩
    · exact absurd hok' g
    · exact absurd h2 g
    · exact ⟨_, _, _, .inr rfl, rfl, rfl⟩
    · obtain ⟨j, hj, ej⟩ := hrev k hk
      rw [ej] at hf
      rw [h3 _ (by simp [hj])] at hf
      cases hf
  · rcases h' with ⟨g, _⟩ | ⟨_, g, _⟩ | ⟨_, _, g3, rfl⟩ | ⟨_, _, k', hk', hf', _, rfl⟩
    · exact absurd hok' g
    · exact absurd h2 g
    · rw [g3 _ (by simp [hk])] at hf
      cases hf
    · obtain ⟨j, hj, ej⟩ := hrev k' hk'
      rw [ej] at hf' ⊢
      have := no_clash hall hcl hk hj hf hf'
      rw [this]
      exact ⟨_, _, 0, .inl ⟨rfl, rfl⟩, rfl, rfl⟩
theorem which_form {n t : Int} {rs : List Rl} {e : Ending} (h : WhichPost n rs t e) : ∃ (a : Int) (ev : Value) (c : Int), Num ev c ∧ e = .returned (.tuple #[.int .i64 a, ev]) := by
  rcases h with ⟨_, rfl⟩ | ⟨_, _, rfl⟩ | ⟨_, _, _, rfl⟩ | ⟨_, _, k, _, _, _, rfl⟩
  · exact ⟨_, _, _, .inr rfl, rfl⟩
  · exact ⟨_, _, _, .inr rfl, rfl⟩
  · exact ⟨_, _, _, .inr rfl, rfl⟩
  · exact ⟨_, _, 0, .inl ⟨rfl, rfl⟩, rfl⟩

set_option maxHeartbeats 4000000 in
set_option maxRecDepth 100000 in
theorem clash_walk (n t : Int) (rs : List Rl) (lo : Option Addr) (lc : Nat) (W : World) (hg : Laid W) (hx : RulesAt W lo rs) (hr : rs.length * 32 ≤ 140737488351232) :
    Calls Tryd.prog 4 #[.int .i64 n, .slice lo rs.length lc, .int .i64 t] W fun e w' => e = .returned (.bool true) ∧ Below W.heap.size W w' := by
  obtain ⟨i0, hi0, hz0, hz1, hz2⟩ := info_parts infoR
  have HG := Lib.hid hg
  have HX := Lib.hid (show ∀ w, Below W.heap.size W w → RulesAt w lo rs from fun w hb => hx.below (Nat.le_refl _) hb)
  have hml : rs.length ≤ maxLen := by unfold maxLen; omega
  have HML := Lib.hid hml
  clear hg hx hml
  go_enter Tryd.func4, Tryd.ntmps4
  go_wp2_with fail
  refine (ruled_true W).mono ?_
  rintro e w1 ⟨rfl, hb1⟩
  have HB1 := Lib.hid hb1
  have HC := Lib.hid (clash_any n rs lo lc w1 (HX.out w1 hb1) HML.out)
  clear hb1
  go_wp2_with fail
  refine HC.out.mono ?_
  clear HC
  rintro e w2 ⟨hp, hb2⟩
  have HB2 := Lib.hid (HB1.out.trans (hb2.mono HB1.out.size))
  have hform : ∃ (i k : Int) (ev : Value), e = .returned (.tuple #[.int .i64 i, .int .i64 k, ev]) := by
    rcases hp with ⟨_, rfl⟩ | ⟨_, _, rfl⟩ | ⟨_, i, k, _, _, _, _, _, rfl⟩
    · exact ⟨_, _, _, rfl⟩
    · exact ⟨_, _, _, rfl⟩
    · exact ⟨_, _, _, rfl⟩
  obtain ⟨ci, ck, cev, he⟩ := hform
  subst he
  have HP := Lib.hid hp
  clear hp hb2 HB1
  go_wp2_with fail
  go_loopw [11, 12] (fun bv jv wr => ∃ k : Nat, jv = .int .i64 ((rs.length : Int) - 1 - k) ∧ k ≤ rs.length ∧ wr.ownsRow W.heap.size 35 2 bv k (rcells (rs.reverse.take k)) ∧ Below W.heap.size W wr) (fun _ jv _ => (intOf jv + 1).toNat)
  case atStart => exact ⟨0, by simp, by omega, by simpa [rcells] using World.ownsRow_nil _ _ _ _, HB2.out⟩
  clear HB2
  case round =>
    obtain ⟨k, rfl, hk, ho, hb⟩ := hrel
    have hsz := hb.size
    by_cases hlt : k < rs.length
    · obtain ⟨j, hj⟩ : ∃ j : Nat, j + 1 + k = rs.length := ⟨rs.length - 1 - k, by omega⟩
      have ej : (rs.length : Int) - 1 - k = (j : Int) := by omega
      rw [ej]
      obtain ⟨b, o, rfl, c1, c2, _, _⟩ := (HX.out wr hb) j (by omega)
      have hrt := rev_take hlt
      rw [show rs.length - 1 - k = j by omega] at hrt
      obtain ⟨r, hre⟩ : ∃ r, r = rs.getD j default := ⟨_, rfl⟩
      rw [← hre] at c1 c2 hrt
      have hcs : rcells (rs.reverse.take k) ++ [.slice r.sa r.when.length r.cap, .int .i64 r.to] = rcells (rs.reverse.take (k + 1)) := by rw [hrt, rcells_append]; rfl
      have HCS := Lib.hid hcs
      have HO := Lib.hid ho
      have HB := Lib.hid hb
      have hjl : j < rs.length := by omega
      clear ho hb hrt hcs hre ej
      go_wp2_with (at_builtin; refine wpList_push _ rfl _ _ 22 rfl W.heap.size 35 i0 (.agg #[.slice none 0 0, .int .i64 0]) 2 32 Tryd.underlying22 hi0 hz0 hz1 hz2 rfl (by decide) _ _ _ rfl (HO.out.alloc _) ⟨wr.heap.size, 0, none⟩ 1 [.slice r.sa r.when.length r.cap, .int .i64 r.to] rfl rfl (cell_two_new _ _ _ _) (two1 r) (by unfold maxLen; omega) (by omega) (by simp; omega) ?_)
      intro g cap w7 ho7 hg7
      have hb7 := (HB.out.alloc hsz (.cells #[.slice r.sa r.when.length r.cap, .int .i64 r.to] 35)).grown hg7 (by simp; omega) (fun k hk => (HO.out.lt k hk).1)
      rw [HCS.out] at ho7
      have HO7 := Lib.hid ho7
      have HB7 := Lib.hid hb7
      clear ho7 hb7 hg7
      go_wp2_with fail
      go_roundw
      case rel => exact ⟨k + 1, by first | (congr 1; done) | (congr 1; omega), by omega, HO7.out, HB7.out⟩
      case measure => first | (simp [intOf]; done) | (simp [intOf]; omega)
    · obtain rfl : k = rs.length := by omega
      rw [show rs.reverse.take rs.length = rs.reverse by rw [List.take_of_length_le (by simp)]] at ho
      obtain ⟨ao, ac, rfl⟩ := owns_shape ho
      have hxw := HX.out wr hb
      have hbk : RulesAt wr ao rs.reverse := RulesAt.of_owns ho (fun r hr => hxw.ints (by simpa using hr))
      have HW1 := Lib.hid (which_any n t rs lo lc wr hxw HML.out)
      have HBK := Lib.hid hbk
      have HB := Lib.hid hb
      have hrl : rs.reverse.length = rs.length := by simp
      have HRL := Lib.hid hrl
      have hneg : ((rs.length : Int) - 1 - (rs.length : Int)) = -1 := by omega
      rw [hneg]
      clear ho hxw hbk hb hrl hneg hlt hk
      go_wp2_with fail
      refine HW1.out.mono ?_
      clear HW1
      rintro e w3 ⟨hp1, hb3⟩
      have HB3 := Lib.hid (HB.out.trans (hb3.mono HB.out.size))
      have HW2 := Lib.hid (show Calls Tryd.prog 8 #[.int .i64 n, .slice ao rs.length ac, .int .i64 t] w3 (fun e w' => WhichPost n rs.reverse t e ∧ Below w3.heap.size w3 w') from by
        have := which_any n t rs.reverse ao ac w3 (HBK.out.below (Nat.le_refl _) hb3) (by rw [HRL.out]; exact HML.out)
        rwa [HRL.out] at this)
      obtain ⟨a1, ev1, c1, hn1, he1⟩ := which_form hp1
      subst he1
      have HP1 := Lib.hid hp1
      have HN1 := Lib.hid hn1
      clear hp1 hn1 hb3 HB
      go_wp2_with fail
      refine HW2.out.mono ?_
      clear HW2
      rintro e w4 ⟨hp2, hb4⟩
      have HB4 := Lib.hid (HB3.out.trans (hb4.mono HB3.out.size))
      obtain ⟨a2, ev2, c2, hn2, he2⟩ := which_form hp2
      subst he2
      have HP2 := Lib.hid hp2
      have HN2 := Lib.hid hn2
      clear hp2 hn2 hb4 HB3
      rcases HP.out with ⟨hno, he⟩ | ⟨hok, hncl, he⟩ | ⟨hok, i, k, hik, hkl, hc, _, _, he⟩
      · have e1 : ci = 0 ∧ ck = 0 ∧ cev = .iface 32 (.int .i64 (tfault n (rs.map Rl.when))) := by simpa using he
        obtain ⟨rfl, rfl, rfl⟩ := e1
        clear he HP
        rcases tfault_bad hno with hf | hf | hf
        all_goals
          rw [hf]
          clear hf
          go_wp2_with fail
          refine (error_is _ _ 2 (.inr rfl) w4 (HG.out.below HB4.out)).mono ?_
          rintro e w5 ⟨rfl, hb5⟩
          have HB5 := Lib.hid (HB4.out.trans (hb5.mono HB4.out.size))
          clear hb5
          go_wp2_with fail
          go_ret
          exact ⟨rfl, HB5.out⟩
      · have e1 : ci = 0 ∧ ck = 0 ∧ cev = .iface 32 (.int .i64 2) := by simpa using he
        obtain ⟨rfl, rfl, rfl⟩ := e1
        obtain ⟨a, ev, c, hn, h1, h2⟩ := which_same hok hncl HP1.out HP2.out
        have e1 : a1 = a ∧ ev1 = ev := by simpa using h1
        have e2 : a2 = a ∧ ev2 = ev := by simpa using h2
        obtain ⟨rfl, rfl⟩ := e1
        obtain ⟨rfl, rfl⟩ := e2
        have HN := Lib.hid hn
        clear he HP h1 h2 hok hncl hn HP1 HP2 HN1 HN2
        go_wp2_with fail
        refine (error_is _ _ 2 (.inr rfl) w4 (HG.out.below HB4.out)).mono ?_
        rintro e w5 ⟨rfl, hb5⟩
        have HB5 := Lib.hid (HB4.out.trans (hb5.mono HB4.out.size))
        clear hb5
        go_wp2_with fail
        refine (told_two _ _ c c HN.out HN.out w5 (HG.out.below HB5.out)).mono ?_
        rintro e w6 ⟨rfl, hb6⟩
        have HB6 := Lib.hid (HB5.out.trans (hb6.mono HB5.out.size))
        clear hb6
        have ht1 : (c == c) = true := by simp
        rw [ht1]
        go_wp2_with fail
        go_ret
        exact ⟨by simp, HB6.out⟩
      · have e1 : ci = i ∧ ck = k ∧ cev = .nilIface := by simpa using he
        obtain ⟨rfl, rfl, rfl⟩ := e1
        clear he HP HP1 HP2 HN1 HN2
        have HOK := Lib.hid hok
        have HC := Lib.hid hc
        clear hok hc
        go_wp2_with fail
        refine (error_is .nilIface 0 2 (.inl ⟨rfl, rfl⟩) w4 (HG.out.below HB4.out)).mono ?_
        rintro e w5 ⟨rfl, hb5⟩
        have hb5' := HB4.out.trans (hb5.mono HB4.out.size)
        obtain ⟨b, o, rfl, c1', c2', hi1, hm1⟩ := (HX.out w5 hb5') i (by omega)
        obtain ⟨b', o', e, d1', d2', hi2, hm2⟩ := (HX.out w5 hb5') k hkl
        cases e
        have HB5 := Lib.hid hb5'
        clear hb5 hb5'
        have hto : (rs.getD i default).to ≠ (rs.getD k default).to := by
          have := HC.out
          unfold cl at this
          simp only [Bool.and_eq_true, decide_eq_true_eq] at this
          exact this.1
        have hmt : meets (rs.getD i default).when (rs.getD k default).when = true := by
          have := HC.out
          unfold cl at this
          simp only [Bool.and_eq_true, decide_eq_true_eq] at this
          exact this.2
        have htk : tok n ([rs.getD i default, rs.getD k default].map Rl.when) := by
          obtain ⟨m, h1, h2, h3, _, h5⟩ := tok_mem.1 HOK.out
          refine tok_mem.2 ⟨m, h1, h2, h3, by simp, fun w hw => h5 w ?_⟩
          simp only [List.map_cons, List.map_nil, List.mem_cons, List.not_mem_nil, or_false] at hw
          rcases hw with rfl | rfl
          · exact List.mem_map.2 ⟨_, by simp [show i < rs.length by omega], rfl⟩
          · exact List.mem_map.2 ⟨_, by simp [hkl], rfl⟩
        obtain ⟨r, hr⟩ : ∃ r, r = rs.getD i default := ⟨_, rfl⟩
        obtain ⟨s, hs⟩ : ∃ s, s = rs.getD k default := ⟨_, rfl⟩
        rw [← hr] at c1' c2' hi1 hm1 hto hmt htk
        rw [← hs] at d1' d2' hi2 hm2 hto hmt htk
        obtain ⟨w8, hw8⟩ : ∃ w8, w8 = (w5.alloc (.cells #[.slice r.sa r.when.length r.cap, .int .i64 r.to, .slice s.sa s.when.length s.cap, .int .i64 s.to] 35)).drew := ⟨_, rfl⟩
        have hb8 : Below w5.heap.size w5 w8 := by rw [hw8]; exact ((Below.refl _ _).alloc (Nat.le_refl _) _).drew
        have hr8 : RulesAt w8 (some ⟨w5.heap.size, 0, none⟩) [r, s] := by
          intro j hj
          match j, hj with
          | 0, _ => exact ⟨_, 0, rfl, by rw [hw8]; simp [go_sem], by rw [hw8]; simp [go_sem], hi1.below (Nat.le_refl _) hb8, hm1⟩
          | 1, _ => exact ⟨_, 0, rfl, by rw [hw8]; simp [go_sem], by rw [hw8]; simp [go_sem], hi2.below (Nat.le_refl _) hb8, hm2⟩
        have HCC := Lib.hid (show Calls Tryd.prog 12 #[.int .i64 n, .slice (some ⟨w5.heap.size, 0, none⟩) 2 2] w8 (fun e w' => e = .returned (.tuple #[.int .i64 0, .int .i64 1, .nilIface]) ∧ Below w8.heap.size w8 w') from
          (clash_any n [r, s] (some ⟨w5.heap.size, 0, none⟩) 2 w8 hr8 (by simp [maxLen])).mono fun e w' hp => ⟨by
            rcases hp.1 with ⟨h, _⟩ | ⟨_, h, _⟩ | ⟨_, i', k', g1, g2, _, _, _, he⟩
            · exact absurd htk h
            · have h1 := h 0 1 (by omega) (by simp)
              have h2 : cl [r, s] 0 1 = (decide (r.to ≠ s.to) && meets r.when s.when) := rfl
              rw [h2, hmt, decide_eq_true hto] at h1
              cases h1
            · have g3 : k' < 2 := by simpa using g2
              obtain rfl : k' = 1 := by omega
              obtain rfl : i' = 0 := by omega
              exact he, hp.2⟩)
        have HB8 := Lib.hid (HB5.out.trans (hb8.mono HB5.out.size))
        have HX8 := Lib.hid hb8
        rw [hw8] at HCC HB8 HX8
        have HTO := Lib.hid hto
        have HMT := Lib.hid hmt
        have HTK := Lib.hid htk
        have hil : i < rs.length := by omega
        clear hi1 hi2 hm1 hm2 hto hmt htk hr8 hb8 hw8 hr hs
        go_wp2_with fail
        go_region_with (go_at_call 12; refine HCC.out.mono ?_; rintro e w9 ⟨rfl, hb9⟩)
        all_goals
          have hx9 := HX8.out.trans (hb9.mono HX8.out.size)
          have c1'' := (hx9.cell (World.block_lt_of_cell? w5 _ c1')).trans c1'
          have c2'' := (hx9.cell (World.block_lt_of_cell? w5 _ c2')).trans c2'
          have d1'' := (hx9.cell (World.block_lt_of_cell? w5 _ d1')).trans d1'
          have d2'' := (hx9.cell (World.block_lt_of_cell? w5 _ d2')).trans d2'
          have HB9 := Lib.hid (HB8.out.trans (hb9.mono HB8.out.size))
          clear hb9 hx9 c1' c2' d1' d2'
          have hlt1 : decide ((i : Int) < (k : Int)) = true := by rw [decide_eq_true_iff]; omega
          have hne : (r.to != s.to) = true := by rw [bne_iff_ne]; exact HTO.out
          go_wp2_with fail
          go_quiet (fail)
          go_wp2_with fail
          go_ret
          exact ⟨by simp, below_drewN HB9.out _⟩
end Go.Proofs.YtpmfpegjkfnnkaaDoor
