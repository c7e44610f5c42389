/- pairs.all, pairs.missing, pairs.Missing. No conditions. -/
import Derived.Test.YtebkgkcfcenkgaaDoorPw2
namespace Go.Proofs.YtebkgkcfcenkgaaDoor
open Go.RowKit Go.Mine Go.Mine.Pw

theorem infoF4 : (Tryd.prog.info? 40).map (fun i => (i.zero, i.size, i.bytes)) = some (some (.agg #[.int .i64 0, .int .i64 0, .int .i64 0, .int .i64 0]), 4, 32) := by kernel_rfl
def yes : List Int → Bool := fun _ => true
theorem St_yes (L : List Int) (a x k y : Nat) : St L yes a x k (y + 1) = St L yes a x k y ++ [four a x (a + 1 + k) y] := by rw [St_y]; rfl
theorem flat4_one (a x b y : Nat) : flat4 [four a x b y] = [.int .i64 (a : Int), .int .i64 (x : Int), .int .i64 (b : Int), .int .i64 (y : Int)] := rfl
theorem St_n_yes (L : List Int) : St L yes L.length 0 0 0 = allP L := by rw [St_n]; exact List.filter_eq_self.2 (fun _ _ => rfl)
set_option maxHeartbeats 2000000 in
set_option maxRecDepth 100000 in
theorem all_any (L : List Int) (ao : Option Addr) (c : Nat) (W : World) (hx : IntsAt .i64 W ao L) (hok : okL L) :
    Calls Tryd.prog 14 #[.slice ao L.length c] W fun e w' => ∃ v, e = .returned v ∧ w'.ownsRow W.heap.size 40 4 v (allP L).length (flat4 (allP L)) ∧ Below W.heap.size W w' := by
  obtain ⟨i0, hi0, hz0, hz1, hz2⟩ := info_parts infoF4
  have HX := Lib.hid (fun (w : World) (h : Below W.heap.size W w) => hx.below (Nat.le_refl _) h)
  have HOK := Lib.hid hok
  have h12 := hok.1
  clear hx hok
  go_enter Tryd.func14, Tryd.ntmps14
  go_wp2_with fail
  go_loopw [3, 10] (fun ov av wr => ∃ a n : Nat, av = .int .i64 a ∧ a ≤ L.length ∧ RowKit.Hid (n = (St L yes a 0 0 0).length ∧ wr.ownsRow W.heap.size 40 4 ov n (flat4 (St L yes a 0 0 0))) ∧ RowKit.Hid (Below W.heap.size W wr)) (fun _ av _ => L.length - (intOf av).toNat)
  case atStart => exact ⟨0, 0, rfl, by omega, Lib.hid ⟨rfl, World.ownsRow_nil _ _ _ _⟩, Lib.hid (Below.refl _ _)⟩
  case round =>
    obtain ⟨a, n, rfl, ha, ho, hb⟩ := hrel
    have HO := Lib.hid ho.out
    have HB := Lib.hid hb.out
    clear ho
    by_cases haL : a < L.length
    · obtain ⟨b0, o0, rfl, hca⟩ := HX.out wr hb.out a haL
      obtain ⟨hla, hla1, hla5⟩ := HOK.out.lv haL
      obtain ⟨la, hlae⟩ : ∃ la, la = lv L a := ⟨_, rfl⟩
      rw [hla, ← hlae] at hca
      rw [← hlae] at hla1 hla5
      have HLA := Lib.hid hlae
      clear hla hlae hb
      go_wp2_with fail
      go_loopw [3, 17] (fun ov xv wr => ∃ x n : Nat, xv = .int .i64 x ∧ x ≤ la ∧ RowKit.Hid (n = (St L yes a x 0 0).length ∧ wr.ownsRow W.heap.size 40 4 ov n (flat4 (St L yes a x 0 0))) ∧ RowKit.Hid (Below W.heap.size W wr)) (fun _ xv _ => la - (intOf xv).toNat)
      case atStart => exact ⟨0, n, rfl, by omega, HO, HB⟩
      clear HO HB
      case round =>
        obtain ⟨x, n, rfl, hx, ho, hb⟩ := hrel
        have HO := Lib.hid ho.out
        have HB := Lib.hid hb.out
        clear ho hb
        by_cases hxl : x < la
        · go_wp2_with fail
          go_loopw [3, 6] (fun ov bv wr => ∃ k n : Nat, bv = .int .i64 ((a + 1 + k : Nat) : Int) ∧ a + 1 + k ≤ L.length ∧ RowKit.Hid (n = (St L yes a x k 0).length ∧ wr.ownsRow W.heap.size 40 4 ov n (flat4 (St L yes a x k 0))) ∧ RowKit.Hid (Below W.heap.size W wr)) (fun _ bv _ => L.length - (intOf bv).toNat)
          case atStart => exact ⟨0, n, by go_num, by omega, HO, HB⟩
          clear HO HB
          case round =>
            obtain ⟨k, n, rfl, hk, ho, hb⟩ := hrel
            have HO := Lib.hid ho.out
            have HB := Lib.hid hb.out
            clear ho
            obtain ⟨b, hbe⟩ : ∃ b, b = a + 1 + k := ⟨_, rfl⟩
            rw [← hbe] at hk ⊢
            have HBE := Lib.hid hbe
            have hab : a + 1 ≤ b := by omega
            have hkb : k ≤ 12 := by omega
            by_cases hbL : b < L.length
            · obtain ⟨b1, o1, he, hcb⟩ := HX.out wr hb.out b hbL
              cases he
              obtain ⟨hlb, hlb1, hlb5⟩ := HOK.out.lv hbL
              obtain ⟨lb, hlbe⟩ : ∃ lb, lb = lv L b := ⟨_, rfl⟩
              rw [hlb, ← hlbe] at hcb
              rw [← hlbe] at hlb1 hlb5
              have HLB := Lib.hid hlbe
              clear hlb hlbe hb hbe
              go_wp2_with fail
              go_loopw [3, 32] (fun ov yv wr => ∃ y n : Nat, yv = .int .i64 y ∧ y ≤ lb ∧ RowKit.Hid (n = (St L yes a x k y).length ∧ wr.ownsRow W.heap.size 40 4 ov n (flat4 (St L yes a x k y))) ∧ RowKit.Hid (Below W.heap.size W wr)) (fun _ yv _ => lb - (intOf yv).toNat)
              case atStart => exact ⟨0, n, rfl, by omega, HO, HB⟩
              clear HO HB
              case round =>
                obtain ⟨y, n, rfl, hy, ho, hb⟩ := hrel
                have HO := Lib.hid ho.out.2
                have HN := Lib.hid ho.out.1
                have HB := Lib.hid hb.out
                have hbs := hb.out.size
                have hn4 : n ≤ 4000 := by
                  rw [ho.out.1]
                  exact St_len HOK.out _ (by omega) (by omega) hkb (by omega)
                clear ho hb
                by_cases hyl : y < lb
                · have HFL := Lib.hid (show flat4 (St L yes a x k y) ++ [.int .i64 (a : Int), .int .i64 (x : Int), .int .i64 (b : Int), .int .i64 (y : Int)] = flat4 (St L yes a x k (y + 1)) by
                    rw [St_yes, flat4_append, HBE.out]; rfl)
                  have HN1 := Lib.hid (show n + 1 = (St L yes a x k (y + 1)).length by rw [St_yes, List.length_append, HN.out]; rfl)
                  go_wp2_with (at_builtin; refine wpList_push _ rfl _ _ 31 rfl W.heap.size 40 i0 (.agg #[.int .i64 0, .int .i64 0, .int .i64 0, .int .i64 0]) 4 32 Tryd.underlying31 hi0 hz0 hz1 hz2 rfl (by decide) _ _ _ rfl (HO.out.alloc _) ⟨wr.heap.size, 0, none⟩ 1 [.int .i64 (a : Int), .int .i64 (x : Int), .int .i64 (b : Int), .int .i64 (y : Int)] rfl rfl (World.news_of_block (cs := #[.int .i64 (a : Int), .int .i64 (x : Int), .int .i64 (b : Int), .int .i64 (y : Int)]) (t := 40) (fr := (0, 0)) (heap_alloc_new wr _)) (by intro u hu; simp at hu; rcases hu with rfl | rfl | rfl | rfl <;> rfl) (by unfold maxLen; omega) (by omega) (by simp; omega) ?_)
                  intro g1 cap w5 hv5 hg5
                  have HB5 := Lib.hid ((HB.out.alloc hbs (.cells #[.int .i64 (a : Int), .int .i64 (x : Int), .int .i64 (b : Int), .int .i64 (y : Int)] 40)).grown hg5 (by simp; omega) (fun k hk => (HO.out.lt k hk).1))
                  rw [HFL.out] at hv5
                  have HV5 := Lib.hid (And.intro HN1.out hv5)
                  clear hv5 hg5
                  go_wp2_with fail
                  go_roundw
                  case rel => exact ⟨y + 1, n + 1, by go_num, by omega, HV5, HB5⟩
                  case measure => simp [intOf]; omega
                · obtain rfl : y = lb := by omega
                  have HE := Lib.hid (show St L yes a x (k + 1) 0 = St L yes a x k y by rw [St_b, HLB.out, HBE.out])
                  go_wp2_with fail
                  go_roundw
                  case rel => exact ⟨k + 1, n, by have := HBE.out; go_num, by have := HBE.out; omega, Lib.hid (by rw [HE.out]; exact ⟨HN.out, HO.out⟩), HB⟩
                  case measure => have := HBE.out; simp [intOf]; omega
            · have HE := Lib.hid (show St L yes a (x + 1) 0 0 = St L yes a x k 0 by rw [St_x, show L.length - (a + 1) = k by omega])
              clear hb
              go_wp2_with fail
              go_roundw
              case rel => exact ⟨x + 1, n, by go_num, by omega, Lib.hid (by rw [HE.out]; exact HO.out), HB⟩
              case measure => simp [intOf]; omega
        · obtain rfl : x = la := by omega
          have HE := Lib.hid (show St L yes (a + 1) 0 0 0 = St L yes a x 0 0 by rw [St_a, HLA.out])
          go_wp2_with fail
          go_roundw
          case rel => exact ⟨a + 1, n, by go_num, by omega, Lib.hid (by rw [HE.out]; exact HO.out), HB⟩
          case measure => simp [intOf]; omega
    · obtain rfl : a = L.length := by omega
      have HE := Lib.hid (St_n_yes L)
      clear hb
      go_wp2_with fail
      go_ret
      have := HO.out
      rw [HE.out] at this
      exact ⟨_, rfl, this.1 ▸ this.2, HB.out⟩

theorem St_four (L : List Int) : ∀ r ∈ allP L, r.length = 4 := fun r hr => by
  obtain ⟨a, x, b, y, rfl, _⟩ := mem_all.1 hr
  rfl
theorem missP_eq (L : List Int) (rows : List (List Int)) : ((allP L).filter fun x => !anyP rows x) = missP L rows := rfl
set_option maxHeartbeats 1000000 in
set_option maxRecDepth 100000 in
theorem missing_any (L : List Int) (rows : List (List Int)) (lo ro : Option Addr) (lc rc : Nat) (W : World) (hx : IntsAt .i64 W lo L) (hok : okL L) (hr : RowsAt W ro rows) (hrl : rows.length ≤ maxLen) (hn : ∀ r ∈ rows, r.length = L.length) :
    Calls Tryd.prog 13 #[.slice lo L.length lc, .slice ro rows.length rc] W fun e w' => (∃ ao cap, e = .returned (.slice ao (missP L rows).length cap) ∧ FoursAt w' ao (missP L rows)) ∧ Below W.heap.size W w' := by
  obtain ⟨w1, hw1⟩ : ∃ w1, w1 = W.alloc (.cells #[.slice ro rows.length rc] 23) := ⟨_, rfl⟩
  have hb1 : Below W.heap.size W w1 := by rw [hw1]; exact (Below.refl _ _).alloc (Nat.le_refl _) _
  have hs1 : w1.heap.size = W.heap.size + 1 := by rw [hw1]; simp
  have hcell : w1.cell? ⟨W.heap.size, 0, none⟩ = some (.slice ro rows.length rc) := by
    rw [hw1, cell_of_row _ _ 0 _ _ _ (heap_alloc_new W (.cells #[.slice ro rows.length rc] 23))]; rfl
  have HA := Lib.hid (all_any L lo lc w1 (hx.below (Nat.le_refl _) hb1) hok)
  have HL := Lib.hid (allP_len hok)
  have HG : ∀ w2, Below w1.heap.size w1 w2 → ∀ g, w1.heap.size ≤ g → GivesF 19 #[.pointer (some ⟨W.heap.size, 0, none⟩)] w2 g (anyP rows) (allP L) := fun w2 hb2 g hg w3 hg3 p hp => by
    obtain ⟨a, x, b, y, rfl, hab, hb, _, _⟩ := mem_all.1 hp
    have hbW : Below W.heap.size W w3 := (hb1.trans (hb2.mono hb1.size)).grown hg3 (Nat.le_trans hb1.size hb2.size) (fun k hk => by cases hk; exact Nat.le_trans hb1.size hg)
    have hc3 : w3.cell? ⟨W.heap.size, 0, none⟩ = some (.slice ro rows.length rc) := by
      refine hg3.cell ((hb2.cell (p := ⟨W.heap.size, 0, none⟩) (by show W.heap.size < _; omega)).trans hcell) ?_
      simp; omega
    exact m1_any rows ro rc W.heap.size w3 (hr.below (Nat.le_refl _) hbW) hrl hc3 a x b y L.length hn (by omega) hb
  have HGV := Lib.hid HG
  have HB1 := Lib.hid hb1
  have hrl' : rows.length ≤ 9223372036854775807 := by unfold maxLen at hrl; omega
  clear hx hr hn HG hcell hb1
  go_enter Tryd.func13, Tryd.ntmps13
  go_wp2_with fail
  rw [← hw1]
  clear hw1
  refine HA.out.mono ?_
  clear HA
  rintro e w2 ⟨v, rfl, ho2, hb2⟩
  obtain ⟨ao, cap, hve⟩ := owns_shape ho2
  subst hve
  have hown := ho2
  rcases hown.2 with ⟨hv, h0⟩ | ⟨g, cap', cur, hv, hbg, _⟩
  · have ha : allP L = [] := List.eq_nil_of_length_eq_zero h0
    simp only [Value.slice.injEq] at hv
    obtain ⟨rfl, _, rfl⟩ := hv
    have HD := Lib.hid (delF_nil w2 19 #[.pointer (some ⟨W.heap.size, 0, none⟩)] (anyP rows) w1.heap.size (fun v w => m1_enters v _ w) (by have := HGV.out w2 hb2 w1.heap.size (Nat.le_refl _); rw [ha] at this; exact this))
    have HM := Lib.hid (show missP L rows = [] by unfold missP; rw [ha]; rfl)
    have HB := Lib.hid (HB1.out.trans (hb2.mono HB1.out.size))
    rw [h0]
    clear ho2 hown hb2 ha h0 HGV
    go_wp2_with fail
    refine HD.out.mono ?_
    clear HD
    rintro e w3 ⟨rfl, hb3⟩
    have HB3 := Lib.hid (HB.out.trans (hb3.mono HB.out.size))
    clear hb3
    go_wp2_with fail
    go_ret
    refine ⟨⟨none, 0, ?_, ?_⟩, HB3.out⟩
    · rw [HM.out]; rfl
    · rw [HM.out]; exact FoursAt.nil _ _
  · simp only [Value.slice.injEq] at hv
    obtain ⟨rfl, _, rfl⟩ := hv
    have HD := Lib.hid (delF_any (allP L) g cap w2 (owns_mono ho2 (Nat.zero_le _)) (St_four L) (Nat.le_trans HL.out (by decide)) 19 #[.pointer (some ⟨W.heap.size, 0, none⟩)] (anyP rows) (fun v w => m1_enters v _ w) (HGV.out w2 hb2 g hbg))
    rw [missP_eq] at HD
    have HB := Lib.hid (HB1.out.trans (hb2.mono HB1.out.size))
    have hs2 := hb2.size
    clear ho2 hown hb2 HGV
    go_wp2_with fail
    refine HD.out.mono ?_
    clear HD
    rintro e w3 ⟨rfl, ho3, hg3⟩
    have HF3 := Lib.hid (FoursAt.of_owns (fun r hr => St_four L r (List.mem_filter.1 hr).1) ho3)
    have HB3 := Lib.hid (HB.out.grown hg3 HB.out.size (fun k hk => by cases hk; omega))
    clear ho3 hg3
    go_wp2_with fail
    go_ret
    exact ⟨⟨_, _, rfl, HF3.out⟩, HB3.out⟩

/-- What Missing tells. -/
def PMissing (L : List Int) (rows : List (List Int)) (e : Ending) (w' : World) : Prop :=
  (¬ okL L ∧ e = .returned (.tuple #[.slice none 0 0, .iface 24 (.int .i64 (pfault L))])) ∨
  (okL L ∧ ¬ okRows L rows ∧ e = .returned (.tuple #[.slice none 0 0, .iface 24 (.int .i64 3)])) ∨
  (okL L ∧ okRows L rows ∧ ∃ ao cap, e = .returned (.tuple #[.slice ao (missP L rows).length cap, .nilIface]) ∧ FoursAt w' ao (missP L rows))
set_option maxHeartbeats 1000000 in
theorem Missing_any (L : List Int) (rows : List (List Int)) (lo ro : Option Addr) (lc rc : Nat) (W : World) (hx : IntsAt .i64 W lo L) (hl : L.length ≤ maxLen) (hr : RowsAt W ro rows) (hrl : rows.length ≤ maxLen) :
    Calls Tryd.prog 9 #[.slice lo L.length lc, .slice ro rows.length rc] W fun e w' => PMissing L rows e w' ∧ Below W.heap.size W w' := by
  have HC := Lib.hid (pwcheck_any L lo lc W hx hl)
  have HX := Lib.hid hx
  have HR := Lib.hid hr
  have HRL := Lib.hid hrl
  unfold maxLen at hl hrl
  clear hx hr
  go_enter Tryd.func9, Tryd.ntmps9
  go_wp2_with fail
  refine HC.out.mono ?_
  clear HC
  rintro e w1 ⟨⟨hs, rfl⟩ | ⟨hs, rfl⟩, rfl⟩
  rotate_left
  · have HS := Lib.hid hs
    clear hs
    go_wp2_with fail
    go_ret2
    exact ⟨.inl ⟨HS.out, rfl⟩, Below.refl _ _⟩
  have HS := Lib.hid hs
  clear hs
  go_wp2_with fail
  go_loop [18] (fun kv => ∃ k : Nat, kv = .int .i64 k ∧ k ≤ rows.length ∧ RowKit.Hid (∀ j, j < k → okRow L (rows.getD j []))) (fun kv => rows.length - (intOf kv).toNat)
  case atStart => exact ⟨0, rfl, by omega, Lib.hid (fun j hj => by omega)⟩
  case round =>
    obtain ⟨k, rfl, hk, hall⟩ := hrel
    by_cases hkr : k < rows.length
    · obtain ⟨b, o, ao, cap, rfl, hc, hri, hrl2, _⟩ := HR.out k hkr
      have hmem : rows.getD k [] ∈ rows := by simp [hkr]
      obtain ⟨r, hre⟩ : ∃ r, r = rows.getD k [] := ⟨_, rfl⟩
      rw [← hre] at hc hri hrl2 hmem
      have HRE := Lib.hid hre
      have HMEM := Lib.hid hmem
      have HRI := Lib.hid hri
      unfold maxLen at hrl2
      clear hre hmem hri
      by_cases hlen : r.length = L.length
      rotate_left
      · have hb : ((r.length : Int) != (L.length : Int)) = true := by rw [bne_iff_ne]; omega
        have HN := Lib.hid (show ¬ okRows L rows from fun h => hlen (h r HMEM.out).1)
        clear hlen
        go_wp2_with fail
        go_ret2
        exact ⟨.inr (.inl ⟨HS.out, HN.out, rfl⟩), Below.refl _ _⟩
      have hb : ((r.length : Int) != (L.length : Int)) = false := by rw [bne_eq_false_iff_eq]; omega
      have HLEN := Lib.hid hlen
      clear hlen
      go_wp2_with fail
      go_loop [30] (fun iv => ∃ i : Nat, iv = .int .i64 i ∧ i ≤ r.length ∧ RowKit.Hid (∀ j, j < i → 0 ≤ r.getD j 0 ∧ r.getD j 0 < L.getD j 0)) (fun iv => r.length - (intOf iv).toNat)
      case atStart => exact ⟨0, rfl, by omega, Lib.hid (fun j hj => by omega)⟩
      case round =>
        obtain ⟨i, rfl, hi, hin⟩ := hrel
        by_cases hir : i < r.length
        · obtain ⟨b1, o1, rfl, hc1⟩ := HRI.out i hir
          have hiL : i < L.length := by have := HLEN.out; omega
          obtain ⟨b2, o2, rfl, hc2⟩ := HX.out i hiL
          have hiL2 : (i : Int) < (L.length : Int) := by omega
          obtain ⟨u, hu⟩ : ∃ u, u = r.getD i 0 := ⟨_, rfl⟩
          obtain ⟨v, hv⟩ : ∃ v, v = L.getD i 0 := ⟨_, rfl⟩
          rw [← hu] at hc1
          rw [← hv] at hc2
          have HU := Lib.hid hu
          have HV := Lib.hid hv
          clear hu hv
          by_cases h0 : u < 0
          · have hd : decide (u < 0) = true := decide_eq_true h0
            have HN := Lib.hid (show ¬ okRows L rows from fun h => by have := ((h r HMEM.out).2 i hiL).1; rw [← HU.out] at this; omega)
            clear h0
            go_wp2_with fail
            go_ret2
            exact ⟨.inr (.inl ⟨HS.out, HN.out, rfl⟩), Below.refl _ _⟩
          have hd : decide (u < 0) = false := decide_eq_false h0
          by_cases h1 : v ≤ u
          · have hd1 : decide (v ≤ u) = true := decide_eq_true h1
            have HN := Lib.hid (show ¬ okRows L rows from fun h => by have := ((h r HMEM.out).2 i hiL).2; rw [← HU.out, ← HV.out] at this; omega)
            clear h0 h1
            go_wp2_with fail
            go_ret2
            exact ⟨.inr (.inl ⟨HS.out, HN.out, rfl⟩), Below.refl _ _⟩
          have hd1 : decide (v ≤ u) = false := decide_eq_false h1
          have HJ := Lib.hid (show ∀ j, j < i + 1 → 0 ≤ r.getD j 0 ∧ r.getD j 0 < L.getD j 0 from fun j hj => by
            by_cases e : j = i
            · rw [e, ← HU.out, ← HV.out]; omega
            · exact hin.out j (by omega))
          clear h0 h1 hin
          go_wp2_with fail
          go_round
          case rel => exact ⟨i + 1, by go_num, by omega, HJ⟩
          case measure => simp [intOf]; omega
        · have HJ := Lib.hid (show ∀ j, j < k + 1 → okRow L (rows.getD j []) from fun j hj => by
            by_cases e : j = k
            · rw [e, ← HRE.out]
              exact ⟨HLEN.out, fun a ha => hin.out a (by have := HLEN.out; omega)⟩
            · exact hall.out j (by omega))
          clear hin hall
          go_wp2_with fail
          go_round
          case rel => exact ⟨k + 1, by go_num, by omega, HJ⟩
          case measure => simp [intOf]; omega
    · obtain rfl : k = rows.length := by omega
      have HO := Lib.hid (show okRows L rows from fun r hr => by
        obtain ⟨j, hj, rfl⟩ := List.mem_iff_getElem.1 hr
        have := hall.out j hj
        simpa [hj] using this)
      have HM := Lib.hid (missing_any L rows lo ro lc rc W HX.out HS.out HR.out HRL.out (fun r hr => (HO.out r hr).1))
      clear hall
      go_wp2_with fail
      refine HM.out.mono ?_
      clear HM
      rintro e w2 ⟨⟨ao, cap, rfl, hf⟩, hb2⟩
      have HF := Lib.hid hf
      have HB := Lib.hid hb2
      clear hf hb2
      go_wp2_with fail
      go_ret2
      exact ⟨.inr (.inr ⟨HS.out, HO.out, ao, cap, rfl, HF.out⟩), HB.out⟩
end Go.Proofs.YtebkgkcfcenkgaaDoor
