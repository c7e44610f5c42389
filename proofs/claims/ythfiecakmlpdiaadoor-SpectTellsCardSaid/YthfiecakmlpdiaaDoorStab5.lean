/- slices' symMergeCmpFunc whole; stableCmpFunc, SortStableFunc at []int, 40 elements at most. No conditions beyond sizes. -/
import Derived.Test.YthfiecakmlpdiaaDoorStab4
namespace Go.Proofs.YthfiecakmlpdiaaDoor
open Go.RowKit Go.Mine Go.Mine.Stab

theorem sym_all (L : Nat → Nat → Prop) (hL : Ord L) (n g cap : Nat) (gf : Nat) (lb : Array Value) (hn : n ≤ 100)
    (hrun : ∀ v u w, Sem.run Tryd.prog (callFunc gf (#[v, u] ++ lb)) w = .ok (.enter gf (#[v, u] ++ lb)) w) : ∀ k, MergesTo L gf lb n g cap k
  | 0 => fun a m b c w h => by omega
  | k + 1 => fun a m b c w h ham hmb hb hl hv hr hc => by
    have ih := sym_all L hL n g cap gf lb hn hrun k
    by_cases h1 : m = a + 1
    · exact sym_left L hL a m b n g cap c gf lb w hl hn h1 hmb hb hv hr hrun hc
    · by_cases h2 : b = m + 1
      · exact sym_right L hL a m b n g cap c gf lb w hl hn (by omega) h2 hb hv hr hrun hc
      · exact sym_rec L hL a m b n g cap c gf lb w hl hn (by omega) (by omega) hb hv hr hrun hc (fun a' m' b' c' w' h' => ih a' m' b' c' w' (by omega))
set_option maxHeartbeats 2000000 in
set_option maxRecDepth 100000 in
theorem stable_any (L : Nat → Nat → Prop) (hL : Ord L) (n g cap : Nat) (c : Nat → Nat) (gf : Nat) (lb : Array Value) (w : World) (hl : Lies w g n cap c) (hn : n ≤ 39) (hv : Vals c n) (hasc : Asc c 0 n)
    (hrun : ∀ v u w, Sem.run Tryd.prog (callFunc gf (#[v, u] ++ lb)) w = .ok (.enter gf (#[v, u] ++ lb)) w) (hc : GivesC L gf lb w g n) :
    Calls Tryd.prog 21 #[.slice (some ⟨g, 0, none⟩) n cap, .int .i64 n, .func (.func gf) #[] lb] w (Merged L w 0 n n g cap c) := by
  have HL := Lib.hid hL
  have HC := Lib.hid hc
  have HV := Lib.hid hv
  have HA := Lib.hid hasc
  by_cases h20 : n < 20
  · have HI := Lib.hid (insertion_any L hL 0 n n g cap c gf lb w hl (by omega) (Nat.zero_le _) (Nat.le_refl _) hv hasc hrun hc)
    have hd1 : decide ((20 : Int) ≤ (n : Int)) = false := by simp; omega
    have hd2 : decide ((20 : Int) < (n : Int)) = false := by simp; omega
    clear hl hL hc hv hasc
    go_enter Tryd.func21, Tryd.ntmps21
    go_wp2_with fail
    go_loop [7, 8] (fun av bv => av = .int .i64 0 ∧ bv = .int .i64 20) (fun _ _ => 0)
    case atStart => exact ⟨rfl, rfl⟩
    case round =>
      obtain ⟨rfl, rfl⟩ := hrel
      go_wp2_with fail
      go_fit HI.out
      clear HI
      rintro e w1 ⟨rfl, hd, hg⟩
      have HE := Lib.hid (show Merged L w 0 n n g cap c (.returned (.tuple #[])) w1 from ⟨rfl, hd, hg⟩)
      clear hd hg
      go_wp2_with fail
      go_loop [6] (fun sv => sv = .int .i64 20) (fun _ => 0)
      case atStart => rfl
      case round =>
        obtain rfl := hrel
        go_wp2_with fail
        go_end0
        exact HE.out
  · have hn20 : 20 ≤ n := by omega
    have HI := Lib.hid (insertion_any L hL 0 20 n g cap c gf lb w hl (by omega) (by omega) hn20 hv (fun p q h1 h2 h3 => hasc p q h1 h2 (by omega)) hrun hc)
    have hd1 : decide ((20 : Int) ≤ (n : Int)) = true := by simp; omega
    have hd2 : decide ((40 : Int) ≤ (n : Int)) = false := by simp; omega
    clear hl hL hc hv hasc
    go_enter Tryd.func21, Tryd.ntmps21
    go_wp2_with fail
    go_loopw [7, 8] (fun av bv wr => (av = .int .i64 0 ∧ bv = .int .i64 20 ∧ wr = w) ∨ (av = .int .i64 20 ∧ bv = .int .i64 40 ∧ RowKit.Hid ((∃ d, Lies wr g n cap d ∧ Mv 0 20 c d ∧ SortedR L d 0 20) ∧ w.grownBy wr (some g)))) (fun _ bv _ => 60 - (intOf bv).toNat)
    case atStart => exact .inl ⟨rfl, rfl, rfl⟩
    case round =>
      rcases hrel with ⟨rfl, rfl, rfl⟩ | ⟨rfl, rfl, hd⟩
      · go_wp2_with fail
        go_fit HI.out
        clear HI
        rintro e w1 ⟨rfl, hd, hg⟩
        have HE := Lib.hid (And.intro hd hg)
        clear hd hg
        go_wp2_with fail
        go_roundw
        case rel => exact .inr ⟨rfl, rfl, HE⟩
        case measure => simp [intOf]
      · clear HI
        obtain ⟨⟨d, hl1, hm1, hs1⟩, hg1⟩ := hd.out
        have HV1 := Lib.hid (HV.out.mv hm1 hn20)
        have HI2 := Lib.hid (insertion_any L HL.out 20 n n g cap d gf lb wr hl1 (by omega) hn20 (Nat.le_refl _) HV1.out (fun p q h1 h2 h3 => by rw [hm1.out (.inr h1), hm1.out (.inr (by omega))]; exact HA.out p q (Nat.zero_le _) h2 h3) hrun (HC.out.step hg1))
        have HM1 := Lib.hid (And.intro hm1 hs1)
        have HG1 := Lib.hid hg1
        clear hl1 hm1 hs1 hg1 hd
        go_wp2_with fail
        go_fit HI2.out
        clear HI2
        rintro e w2 ⟨rfl, ⟨d2, hl2, hm2, hs2⟩, hg2⟩
        have HG2 := Lib.hid (st_trans HG1.out hg2)
        have HV2 := Lib.hid (HV1.out.mv hm2 (Nat.le_refl _))
        have HL2 := Lib.hid hl2
        have HM2 := Lib.hid (show Mv 0 n c d2 from (HM1.out.1.wide (Nat.le_refl _) hn20).trans (hm2.wide (Nat.zero_le _) (Nat.le_refl _)))
        have HR2 := Lib.hid (show Runs L d2 0 20 n from ⟨fun p q h1 h2 h3 => by rw [hm2.out (.inl (by omega)), hm2.out (.inl h3)]; exact HM1.out.2 p q h1 h2 h3, hs2, fun p q h1 h2 h3 h4 => by
          obtain ⟨q', a1, a2, a3⟩ := hm2.from h3 h4
          obtain ⟨p', b1, b2, b3⟩ := HM1.out.1.from h1 h2
          rw [hm2.out (.inl h2), a3, b3, HM1.out.1.out (.inr a1)]
          exact HA.out p' q' b1 (by omega) a2⟩)
        clear hl2 hm2 hs2 hg2
        by_cases hn1 : 20 < n
        · have hd3 : decide ((20 : Int) < (n : Int)) = true := by simp; omega
          have hd4 : decide ((40 : Int) < (n : Int)) = false := by simp; omega
          have HS := Lib.hid (sym_all L HL.out n g cap gf lb (by omega) hrun (n + 1) 0 20 n d2 w2 (by omega) (by omega) hn1 (Nat.le_refl _) HL2.out HV2.out HR2.out (HC.out.step HG2.out))
          go_wp2_with fail
          go_loopw [6, 7, 8, 9] (fun sv _ _ _ wr => (sv = .int .i64 20 ∧ wr = w2) ∨ (sv = .int .i64 40 ∧ RowKit.Hid (Merged L w 0 n n g cap c (.returned (.tuple #[])) wr))) (fun sv _ _ _ _ => 100 - (intOf sv).toNat)
          case atStart => exact .inl ⟨rfl, rfl⟩
          case round =>
            rcases hrel with ⟨rfl, rfl⟩ | ⟨rfl, hd⟩
            · go_wp2_with fail
              go_loop [7, 8] (fun av bv => av = .int .i64 0 ∧ bv = .int .i64 40) (fun _ _ => 0)
              case atStart => exact ⟨rfl, rfl⟩
              case round =>
                obtain ⟨rfl, rfl⟩ := hrel
                go_wp2_with fail
                go_fit HS.out
                clear HS
                rintro e w3 ⟨rfl, ⟨d3, hl3, hm3, hs3⟩, hg3⟩
                have HE := Lib.hid (show Merged L w 0 n n g cap c (.returned (.tuple #[])) w3 from ⟨rfl, ⟨d3, hl3, HM2.out.trans hm3, hs3⟩, st_trans HG2.out hg3⟩)
                clear hl3 hm3 hs3 hg3
                go_wp2_with fail
                go_roundw
                case rel => exact .inr ⟨rfl, HE⟩
                case measure => simp [intOf]
            · clear HS
              go_wp2_with fail
              go_end0
              exact hd.out
        · have hd3 : decide ((20 : Int) < (n : Int)) = false := by simp; omega
          have hne : n = 20 := by omega
          have HE := Lib.hid (show Merged L w 0 n n g cap c (.returned (.tuple #[])) w2 from ⟨rfl, ⟨d2, HL2.out, HM2.out, fun p q h1 h2 h3 => HR2.out.left p q h1 h2 (by omega)⟩, HG2.out⟩)
          clear hne
          go_wp2_with fail
          go_loop [6] (fun sv => sv = .int .i64 20) (fun _ => 0)
          case atStart => rfl
          case round =>
            obtain rfl := hrel
            go_wp2_with fail
            go_end0
            exact HE.out
theorem sortStable_any (L : Nat → Nat → Prop) (hL : Ord L) (n g cap : Nat) (c : Nat → Nat) (gf : Nat) (lb : Array Value) (w : World) (hl : Lies w g n cap c) (hn : n ≤ 39) (hv : Vals c n) (hasc : Asc c 0 n)
    (hrun : ∀ v u w, Sem.run Tryd.prog (callFunc gf (#[v, u] ++ lb)) w = .ok (.enter gf (#[v, u] ++ lb)) w) (hc : GivesC L gf lb w g n) :
    Calls Tryd.prog 16 #[.slice (some ⟨g, 0, none⟩) n cap, .func (.func gf) #[] lb] w (Merged L w 0 n n g cap c) := by
  have H := Lib.hid (stable_any L hL n g cap c gf lb w hl hn hv hasc hrun hc)
  clear hl hL hc hv hasc
  go_enter Tryd.func16, Tryd.ntmps16
  go_wp2_with fail
  go_fit H.out
  rintro e w1 ⟨rfl, hd, hg⟩
  clear H
  have HE := Lib.hid (show Merged L w 0 n n g cap c (.returned (.tuple #[])) w1 from ⟨rfl, hd, hg⟩)
  clear hd hg
  go_wp2_with fail
  go_end0
  exact HE.out
end Go.Proofs.YthfiecakmlpdiaaDoor
