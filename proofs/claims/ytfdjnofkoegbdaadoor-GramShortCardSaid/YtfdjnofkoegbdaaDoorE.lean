/- GramShort's walk. CONDITION: errors.errorType holds what start-up lays there. -/
import Derived.Test.YtfdjnofkoegbdaaDoorGram3
import Derived.Test.YtfdjnofkoegbdaaDoorGram4
import Derived.Test.YtfdjnofkoegbdaaDoorGram15
import Derived.Test.YtfdjnofkoegbdaaDoorErrIs
namespace Go.Mine.Gram
open Go Go.RowKit Go.Mine

/-- What a name makes, some rule of it makes. -/
theorem Lang.rule {g : List (List (List Int))} (hg : gok g) {k : Nat} (hk : k < g.length) {w : List Int} (h : Lang g k w) : ∃ r ∈ g.getD k [], Cat (Lang g) r w := by
  have hc : LClosed g (fun i w => i < g.length → Lang g i w ∧ ∃ r ∈ g.getD i [], Cat (Lang g) r w) := by
    intro i hi r hr w hcat _
    have hrx : ∀ x ∈ r, -(g.length : Int) ≤ x := by
      obtain ⟨j, hj, rfl⟩ := List.mem_iff_getElem.1 hr
      intro x hx
      have := ((hg.2.2 i hi).2 j hj).2 x (by rw [List.getD, List.getElem?_eq_getElem hj]; exact hx)
      exact this.1
    have hcl : Cat (Lang g) r w := by
      clear hr
      induction r generalizing w with
      | nil => exact hcat
      | cons x xs ih =>
        obtain ⟨u, v, e, h1, h2⟩ := hcat
        refine ⟨u, v, e, h1.imp id (fun h3 => ⟨h3.1, (h3.2 ?_).1⟩), ih v h2 (fun y hy => hrx y (List.mem_cons_of_mem _ hy))⟩
        have := hrx x (by simp)
        omega
    exact ⟨Lang.closed g i hi r hr w hcl, r, hr, hcl⟩
  exact (h _ hc hk).2
theorem Cat.made {g : List (List (List Int))} {S : List Bool} {B : List (List Int)} (hf : Fixed g S B) (hg : gok g) : ∀ {r w : List Int}, (∀ x ∈ r, -(g.length : Int) ≤ x) → Cat (Lang g) r w → ready S r
  | [], _, _, _ => fun x hx => by cases hx
  | y :: ys, _, hx, ⟨u, v, _, h1, h2⟩ => fun x hm h0 => by
    rcases List.mem_cons.1 hm with rfl | hm
    · rcases h1 with ⟨g1, _⟩ | ⟨_, g2⟩
      · omega
      · have := hx x (by simp)
        exact (hf.least hg (by omega) g2).1
    · exact Cat.made hf hg (fun z hz => hx z (List.mem_cons_of_mem _ hz)) h2 x hm h0
theorem flag_iff {g : List (List (List Int))} {S : List Bool} {B : List (List Int)} (hb : Bst g S B) (hf : Fixed g S B) (hg : gok g) {k : Nat} (hk : k < g.length) : S.getD k false = true ↔ ∃ w, Lang g k w :=
  ⟨fun h => ⟨_, hb.sound k hk h⟩, fun ⟨_, h⟩ => (hf.least hg hk h).1⟩
theorem flag_same {g : List (List (List Int))} {S S' : List Bool} {B B' : List (List Int)} (hb : Bst g S B) (hf : Fixed g S B) (hb' : Bst g S' B') (hf' : Fixed g S' B') (hg : gok g) {k : Nat} (hk : k < g.length) : S.getD k false = S'.getD k false := by
  have h := (flag_iff hb hf hg hk).trans (flag_iff hb' hf' hg hk).symm
  cases h1 : S.getD k false <;> cases h2 : S'.getD k false <;> simp_all
theorem range_of {g : List (List (List Int))} (hg : gok g) {k : Nat} (hk : k < g.length) {r : List Int} (hr : r ∈ g.getD k []) : ∀ x ∈ r, -(g.length : Int) ≤ x ∧ x ≤ 2 := by
  obtain ⟨j, hj, rfl⟩ := List.mem_iff_getElem.1 hr
  intro x hx
  exact ((hg.2.2 k hk).2 j hj).2 x (by rw [List.getD, List.getElem?_eq_getElem hj]; exact hx)
theorem ready_of {g : List (List (List Int))} {S : List Bool} {B : List (List Int)} (hb : Bst g S B) (hf : Fixed g S B) (hg : gok g) {k : Nat} (hk : k < g.length) : S.getD k false = true ↔ ∃ r ∈ g.getD k [], ready S r := by
  constructor
  · intro h
    obtain ⟨r, hr, hc⟩ := Lang.rule hg hk (hb.sound k hk h)
    exact ⟨r, hr, Cat.made hf hg (fun x hx => (range_of hg hk hr x hx).1) hc⟩
  · rintro ⟨r, hr, hrd⟩
    exact (hf k hk r hr hrd).1
end Go.Mine.Gram
namespace Go.Proofs.YtfdjnofkoegbdaaDoor
open Go.RowKit Go.Mine Go.Mine.Gram

theorem empty_iff {g : List (List (List Int))} {S : List Bool} {B : List (List Int)} (hb : Bst g S B) (hf : Fixed g S B) (hg : gok g) {k : Nat} (hk : k < g.length) : (g.getD k []).all (fun r => r.any (lacks S)) = !S.getD k false := by
  have h := ready_of hb hf hg hk
  cases e : S.getD k false with
  | true =>
    obtain ⟨r, hr, hrd⟩ := h.1 e
    rw [Bool.not_true, List.all_eq_false]
    exact ⟨r, hr, by rw [any_lacks.2 hrd]; simp⟩
  | false =>
    rw [Bool.not_false, List.all_eq_true]
    intro r hr
    cases e2 : r.any (lacks S) with
    | true => rfl
    | false =>
      have := h.2 ⟨r, hr, any_lacks.1 e2⟩
      rw [e] at this
      cases this
/-- An error of Short's, and whether it is ErrNone. -/
def ShortNo (e : Ending) (b : Bool) : Prop := ∃ (o : Option Addr) (n m : Nat) (y : Value) (c : Int), e = .returned (.tuple #[.slice o n m, y]) ∧ Num y c ∧ (c == 2) = b
theorem ShortPost.no {g : List (List (List Int))} {x : Int} {e : Ending} {w' : World} (h : ShortPost g (-1 - x) e w') (hg : gok g) (hx : -(g.length : Int) ≤ x) (h0 : x < 0) {S : List Bool} {B : List (List Int)} (hb : Bst g S B) (hf : Fixed g S B) : ShortNo e (lacks S x) := by
  rcases h with ⟨h, _⟩ | ⟨_, h, _⟩ | ⟨_, k, hk, hkl, S', B', hb', hf', h⟩
  · exact absurd hg h
  · omega
  · have hl : lacks S x = !S'.getD k false := by
      unfold lacks
      rw [decide_eq_true h0, Bool.true_and, hk, Int.toNat_natCast, flag_same hb hf hb' hf' hg hkl]
    rw [hl]
    rcases h with ⟨h1, rfl⟩ | ⟨h1, _, rfl⟩ | ⟨h1, _, ro, rc, rfl, _⟩
    · exact ⟨_, _, _, _, 2, rfl, Num.err 2, by rw [h1]; rfl⟩
    · exact ⟨_, _, _, _, 4, rfl, Num.err 4, by rw [h1]; rfl⟩
    · exact ⟨_, _, _, _, 0, rfl, Num.nil, by rw [h1]; rfl⟩
theorem any_take {r : List Int} (p : Int → Bool) {j : Nat} (hj : j < r.length) : (r.take (j + 1)).any p = ((r.take j).any p || p (r.getD j 0)) := by
  rw [List.take_succ_eq_append_getElem hj, List.any_append]; simp [hj]
theorem all_take {r : List (List Int)} (p : List Int → Bool) {j : Nat} (hj : j < r.length) : (r.take (j + 1)).all p = ((r.take j).all p && p (r.getD j [])) := by
  rw [List.take_succ_eq_append_getElem hj, List.all_append]; simp [hj]
theorem rf_ne2 {n : Nat} {r : List Int} : rf n r ≠ 2 := by unfold rf; split <;> (try split) <;> omega
theorem ff_ne2 {n : Nat} : ∀ {rs : List (List Int)}, ff n rs ≠ 2
  | [] => by simp [ff]
  | r :: rs => by
    unfold ff
    split
    · exact ff_ne2
    · exact rf_ne2
theorem nf_ne2 {n : Nat} {rs : List (List Int)} : nf n rs ≠ 2 := by
  unfold nf
  split
  · omega
  · exact ff_ne2
theorem sf_ne2 {n : Nat} : ∀ {g : List (List (List Int))}, sf n g ≠ 2
  | [] => by simp [sf]
  | r :: rs => by
    unfold sf
    split
    · exact sf_ne2
    · exact nf_ne2
theorem gfault_ne2 {g : List (List (List Int))} : gfault g ≠ 2 := by
  unfold gfault
  split
  · omega
  · exact sf_ne2
/-- Short's answers, parted as the statement parts them. -/
def ShortCase (g : List (List (List Int))) (i : Int) (e : Ending) (w' : World) : Prop :=
  (∃ c : Int, (c == 2) = false ∧ e = .returned (.tuple #[.slice none 0 0, .iface 30 (.int .i64 c)])) ∨
  (gok g ∧ ∃ k S B, i = ((k : Nat) : Int) ∧ k < g.length ∧ Bst g S B ∧ Fixed g S B ∧
    ((S.getD k false = false ∧ e = .returned (.tuple #[.slice none 0 0, .iface 30 (.int .i64 2)])) ∨
     (S.getD k false = true ∧ (B.getD k []).length ≤ 1000 ∧ ∃ ro rc, e = .returned (.tuple #[.slice ro (B.getD k []).length rc, .nilIface]) ∧ IntsAt .i64 w' ro (B.getD k []))))
theorem ShortPost.parts {g : List (List (List Int))} {i : Int} {e : Ending} {w' : World} (h : ShortPost g i e w') : ShortCase g i e w' := by
  rcases h with ⟨h, rfl⟩ | ⟨_, h, rfl⟩ | ⟨hg, k, hk, hkl, S, B, hb, hf, h⟩
  · exact .inl ⟨_, beq_eq_false_iff_ne.2 gfault_ne2, rfl⟩
  · exact .inl ⟨1, rfl, rfl⟩
  · rcases h with ⟨h1, rfl⟩ | ⟨h1, _, rfl⟩ | ⟨h1, h2, ro, rc, rfl, h3⟩
    · exact .inr ⟨hg, k, S, B, hk, hkl, hb, hf, .inl ⟨h1, rfl⟩⟩
    · exact .inl ⟨4, rfl, rfl⟩
    · exact .inr ⟨hg, k, S, B, hk, hkl, hb, hf, .inr ⟨h1, h2, ro, rc, rfl, h3⟩⟩

set_option maxHeartbeats 2000000 in
set_option maxRecDepth 100000 in
theorem gramShort_walk (g : List (List (List Int))) (ws : List Int) (i : Int) (go' wo : Option Addr) (gc wc : Nat) (W : World) (hg : Laid W) (hx : GridAt W go' g) (hl : g.length ≤ maxLen) (hw : IntsAt .i64 W wo ws) (hwl : ws.length ≤ maxLen) :
    Calls Tryd.prog 5 #[.slice go' g.length gc, .int .i64 i, .slice wo ws.length wc] W fun e w' => e = .returned (.bool true) ∧ Below W.heap.size W w' := by
  have HG := Lib.hid hg
  have HX := Lib.hid (show ∀ w, Below W.heap.size W w → GridAt w go' g ∧ IntsAt .i64 w wo ws from fun w hb => ⟨hx.below (Nat.le_refl _) hb, hw.below (Nat.le_refl _) hb⟩)
  have HXW := Lib.hid hx
  have HL := Lib.hid hl
  have hwl2 := hwl
  unfold maxLen at hwl2
  clear hg hx hw
  go_enter Tryd.func5, Tryd.ntmps5
  go_wp2_with fail
  refine (grammar_true W).mono ?_
  rintro e w1 ⟨rfl, hb1⟩
  have HS := Lib.hid (short_any g i go' gc w1 (HX.out w1 hb1).1 hl)
  have HB1 := Lib.hid hb1
  clear hb1
  go_wp2_with fail
  refine HS.out.mono ?_
  clear HS
  rintro e w2 ⟨hp, hb2⟩
  have hb2' := HB1.out.trans (hb2.mono HB1.out.size)
  have hp := hp.parts
  clear HB1 hb2
  rcases hp with ⟨c, hc2, rfl⟩ | ⟨hok, q, S, B, rfl, hq, hbst, hfix, hcase⟩
  · have HB2 := Lib.hid hb2'
    have HC2 := Lib.hid hc2
    clear hc2
    go_wp2_with fail
    refine (error_is _ _ 2 (Num.err c) w2 (HG.out.below hb2')).mono ?_
    rintro e w3 ⟨rfl, hb3⟩
    rw [HC2.out]
    have HB3 := Lib.hid (HB2.out.trans (hb3.mono HB2.out.size))
    clear hb3 hb2' HB2
    go_wp2_with fail
    go_ret
    exact ⟨rfl, HB3.out⟩
  obtain ⟨bg, og, ro, rc, hge, hrl, _, _, hrows, hcell⟩ := HXW.out.get (j := q) hq
  subst hge
  have HBF := Lib.hid (And.intro hbst hfix)
  have HOK := Lib.hid hok
  have HQ := Lib.hid hq
  have HEM := Lib.hid (empty_iff hbst hfix hok hq)
  obtain ⟨rs, hrs⟩ : ∃ rs, rs = g.getD q [] := ⟨_, rfl⟩
  rw [← hrs] at hcell hrows HEM hrl
  have HRS := Lib.hid hrs
  have HRW := Lib.hid hrows
  have HCG := Lib.hid hcell
  have HQL := Lib.hid (show q < g.length from hq)
  clear hbst hfix hok hrs hrows hcell hq
  unfold maxLen at hrl
  obtain ⟨fl, hfl⟩ : ∃ fl, fl = S.getD q false := ⟨_, rfl⟩
  obtain ⟨bq, hbq⟩ : ∃ bq, bq = B.getD q [] := ⟨_, rfl⟩
  rw [← hfl, ← hbq] at hcase
  rw [← hfl] at HEM
  have HFL := Lib.hid hfl
  have HBQ := Lib.hid hbq
  clear hfl hbq
  rcases hcase with ⟨hf1, rfl⟩ | ⟨hf1, hf2, so, sc, rfl, hint⟩
  case' inl =>
    have hc1 : ∃ c : Int, Num (.iface 30 (.int .i64 2)) c ∧ (c == 2) = true := ⟨2, Num.err 2, rfl⟩
    rw [hf1] at HEM HFL
    go_wp2_with fail
  case' inr =>
    have hc1 : ∃ c : Int, Num .nilIface c ∧ (c == 2) = false := ⟨0, Num.nil, rfl⟩
    rw [hf1] at HEM HFL
    have HINT := Lib.hid (show ∀ w, Below w2.heap.size w2 w → IntsAt .i64 w so bq from fun w hw => hint.below (Nat.le_refl _) hw)
    clear hint
    go_wp2_with fail
  all_goals
    obtain ⟨c, hc1, hc2⟩ := hc1
    refine (error_is _ _ 2 hc1 w2 (HG.out.below hb2')).mono ?_
    rintro e w3 ⟨rfl, hb3⟩
    rw [hc2]
    have HB3 := Lib.hid (hb2'.trans (hb3.mono hb2'.size))
    have HB23 := Lib.hid hb3
    clear hb3 hb2' hc1 hc2 hf1
    go_wp2_with fail
    go_loopw [11, 12] (fun ev kv wr => ∃ (a : Nat) (b : Bool), kv = .int .i64 a ∧ a ≤ rs.length ∧ ev = .bool b ∧ RowKit.Hid (b = (rs.take a).all (fun r => r.any (lacks S))) ∧ RowKit.Hid (Below w3.heap.size w3 wr)) (fun _ kv _ => rs.length - (intOf kv).toNat)
    case atStart => exact ⟨0, true, rfl, by omega, rfl, Lib.hid (by simp), Lib.hid (Below.refl _ _)⟩
    case round =>
      obtain ⟨a, b, rfl, ha, rfl, hb, hbel⟩ := hrel
      have hbw := HB3.out.trans (hbel.out.mono HB3.out.size)
      have hcg := HCG.out wr hbw
      by_cases hal : a < rs.length
      · obtain ⟨b1, o1, ro1, rc1, hre, hr1l, _, _, hints, hcellr⟩ := HRW.out.get (j := a) hal
        subst hre
        have hcr := hcellr wr hbw
        obtain ⟨r, hr⟩ : ∃ r, r = rs.getD a [] := ⟨_, rfl⟩
        rw [← hr] at hcr hints hr1l
        have HCR := Lib.hid (show ∀ w, Below W.heap.size W w → w.cell? ⟨b1, o1 + a, none⟩ = some (.slice ro1 r.length rc1) by rw [hr]; exact hcellr)
        have HR := Lib.hid hr
        have HRM := Lib.hid (show r ∈ g.getD q [] by rw [← HRS.out, hr]; simp [hal])
        have HI := Lib.hid hints
        have HBEL := Lib.hid hbel.out
        unfold maxLen at hr1l
        clear hr hints hcellr hbw hbel
        go_wp2_with fail
        go_loopw [13, 14] (fun dv jv wr => ∃ (j : Nat) (d : Bool), jv = .int .i64 j ∧ j ≤ r.length ∧ dv = .bool d ∧ RowKit.Hid (d = (r.take j).any (lacks S)) ∧ RowKit.Hid (Below w3.heap.size w3 wr)) (fun _ jv _ => r.length - (intOf jv).toNat)
        case atStart => exact ⟨0, false, rfl, by omega, rfl, Lib.hid (by simp), HBEL⟩
        clear HBEL hcg hcr
        case round =>
          obtain ⟨j, d, rfl, hj, rfl, hd, hbel⟩ := hrel
          have hbw := HB3.out.trans (hbel.out.mono HB3.out.size)
          have hcg := HCG.out wr hbw
          have hcr := HCR.out wr hbw
          by_cases hjl : j < r.length
          · obtain ⟨b2, o2, hre, hcx⟩ := HI.out.below (Nat.le_refl _) hbw j hjl
            subst hre
            have hxr := range_of HOK.out HQL.out HRM.out (r.getD j 0) (by simp [hjl])
            have HTK := Lib.hid (show (r.take (j + 1)).any (lacks S) = ((r.take j).any (lacks S) || lacks S (r.getD j 0)) from any_take (lacks S) hjl)
            obtain ⟨x, hx⟩ : ∃ x, x = r.getD j 0 := ⟨_, rfl⟩
            rw [← hx] at hcx hxr HTK
            have HBEL := Lib.hid hbel.out
            have HD := Lib.hid hd.out
            clear hx hbw hbel hd
            have hgl : (g.length : Int) ≤ 5 := by have := HOK.out.2.1; omega
            by_cases hx0 : x < 0
            · have HSX := Lib.hid (short_any g (-1 - x) (some ⟨bg, og, none⟩) gc wr (HX.out wr (HB3.out.trans (HBEL.out.mono HB3.out.size))).1 HL.out)
              go_wp2_with fail
              refine HSX.out.mono ?_
              clear HSX
              rintro e w5 ⟨hp, hb5⟩
              have HB5 := Lib.hid (HBEL.out.trans (hb5.mono HBEL.out.size))
              obtain ⟨o', n', m', y, c, rfl, hy, hcy⟩ := hp.no HOK.out hxr.1 hx0 HBF.out.1 HBF.out.2
              clear hb5 hp HBEL
              have HY := Lib.hid hy
              have HCY := Lib.hid hcy
              clear hy hcy
              go_wp2_with fail
              refine (error_is _ _ 2 HY.out w5 (HG.out.below (HB3.out.trans (HB5.out.mono HB3.out.size)))).mono ?_
              rintro e w6 ⟨rfl, hb6⟩
              rw [HCY.out]
              have HB6 := Lib.hid (HB5.out.trans (hb6.mono HB5.out.size))
              obtain ⟨lx, hlx⟩ : ∃ lx, lx = lacks S x := ⟨_, rfl⟩
              rw [← hlx] at HTK ⊢
              clear hb6 HB5 hlx HCY
              cases d <;> go_wp2_with fail
              all_goals
                go_roundw
                case rel => exact ⟨j + 1, _, by go_num, by omega, rfl, Lib.hid (by rw [HTK.out, ← HD.out]; simp), HB6⟩
                case measure => simp [intOf]; omega
            · have HLX := Lib.hid (show lacks S x = false by unfold lacks; rw [decide_eq_false hx0]; rfl)
              go_wp2_with fail
              go_roundw
              case rel => exact ⟨j + 1, _, by go_num, by omega, rfl, Lib.hid (by rw [HTK.out, ← HD.out, HLX.out, Bool.or_false]), HBEL⟩
              case measure => simp [intOf]; omega
          · have hte : r.take j = r := List.take_of_length_le (by omega)
            have HTK := Lib.hid (show (rs.take (a + 1)).all (fun r => r.any (lacks S)) = (b && d) by
              have hd' := hd.out
              rw [hte] at hd'
              rw [all_take _ hal, ← hb.out, ← HR.out, ← hd'])
            have HBEL := Lib.hid hbel.out
            clear hte hbw hbel hd
            cases b <;> go_wp2_with fail
            all_goals
              go_roundw
              case rel => exact ⟨a + 1, _, by go_num, by omega, rfl, Lib.hid (HTK.out.trans (by simp)).symm, HBEL⟩
              case measure => simp [intOf]; omega
      · have hte : rs.take a = rs := List.take_of_length_le (by omega)
        have HE := Lib.hid ((hb.out.trans (by rw [hte])).trans HEM.out)
        have HB4 := Lib.hid hbw
        have HBEL := Lib.hid hbel.out
        clear hb hbel hte hbw
        first
        | -- it makes none
          obtain rfl : b = true := HE.out
          go_wp2_with fail
          go_ret
          exact ⟨rfl, HB4.out⟩
        | obtain rfl : b = false := HE.out
          have HBQI := Lib.hid (HINT.out wr (HB23.out.trans (HBEL.out.mono HB23.out.size)))
          by_cases h8 : 8 < bq.length
          · have hd8 : decide (8 < bq.length) = true := by rw [decide_eq_true_iff]; exact h8
            go_wp2_with fail
            go_ret
            exact ⟨rfl, HB4.out⟩
          have hd8 : decide (8 < bq.length) = false := by rw [decide_eq_false_iff_not]; exact h8
          by_cases hq0 : q = 0
          rotate_left
          · have hbq : ((q : Int) != 0) = true := by rw [bne_iff_ne]; omega
            go_wp2_with fail
            go_ret
            exact ⟨rfl, HB4.out⟩
          subst hq0
          rw [Nat.add_zero] at hcg
          have HWD := Lib.hid (show Word g bq from by
            have h1 := HBF.out.1.sound 0 HQL.out (HFL.out.symm)
            rw [← HBQ.out] at h1
            exact h1.word)
          have HH1 := Lib.hid (has_any g bq (some ⟨bg, og, none⟩) so gc sc wr (HX.out wr HB4.out).1 hl HBQI.out (by unfold maxLen; omega))
          go_wp2_with fail
          refine HH1.out.mono ?_
          clear HH1
          rintro e w5 ⟨hp, hb5⟩
          have hb5' := HB4.out.trans (hb5.mono HB4.out.size)
          have HBQI5 := Lib.hid (show IntsAt .i64 w5 so bq from HBQI.out.below (Nat.le_refl _) hb5)
          have HB5 := Lib.hid hb5'
          rcases hp with ⟨h, _⟩ | ⟨_, h, _⟩ | ⟨_, _, b5, rfl, hbw5⟩
          · exact absurd HOK.out h
          · omega
          obtain rfl : b5 = true := hbw5.2 HWD.out
          have HH2 := Lib.hid (has_any g ws (some ⟨bg, og, none⟩) wo gc wc w5 (HX.out w5 hb5').1 hl (HX.out w5 hb5').2 hwl)
          clear hbw5 hb5 hb5'
          go_wp2_with fail
          refine HH2.out.mono ?_
          clear HH2
          rintro e w6 ⟨hp, hb6⟩
          have HB6 := Lib.hid (HB5.out.trans (hb6.mono HB5.out.size))
          have HBQI6 := Lib.hid (show IntsAt .i64 w6 so bq from HBQI5.out.below (Nat.le_refl _) hb6)
          clear hb6
          rcases hp with ⟨h, _⟩ | ⟨_, h, rfl⟩ | ⟨_, _, b6, rfl, hbw6⟩
          · exact absurd HOK.out h
          · go_wp2_with fail
            all_goals go_ret
            all_goals exact ⟨rfl, HB6.out⟩
          · cases b6 with
            | false =>
              clear hbw6
              go_wp2_with fail
              all_goals go_ret
              all_goals exact ⟨rfl, HB6.out⟩
            | true =>
              have HLE := Lib.hid (show shorterB ws bq = false from by
                have h1 := (HBF.out.2.least HOK.out HQL.out (hbw6.1 rfl).lang).2
                rw [← HBQ.out] at h1
                have h2 := not_of_le h1
                cases h3 : shorterB ws bq with
                | false => rfl
                | true => exact absurd (shorterB_iff.1 h3) h2)
              have HS := Lib.hid (show Calls Tryd.prog 17 #[.slice wo ws.length wc, .slice so bq.length sc] w6 (fun e w' => e = .returned (.bool false) ∧ ∃ m, w' = w6.drewN m) from by
                have := shorter_any ws bq wo so wc sc w6 (HX.out w6 HB6.out).2 HBQI6.out hwl (by unfold maxLen; omega)
                rw [HLE.out] at this
                exact this)
              clear hbw6
              go_wp2_with fail
              refine HS.out.mono ?_
              rintro e w7 ⟨rfl, m, rfl⟩
              have HB7 := Lib.hid (below_drewN HB6.out m)
              go_wp2_with fail
              go_ret
              exact ⟨rfl, HB7.out⟩
end Go.Proofs.YtfdjnofkoegbdaaDoor
