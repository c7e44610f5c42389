/- What fails, in general (fault): a function of the list. pieced. LessPlace. assayersame.Error. -/
import Derived.Test.YtgkjmacdllibmaaDoorQIn
import Derived.Test.YtgkjmacdllibmaaDoorMin2
import Derived.Test.YtgkjmacdllibmaaDoorSInts
import Derived.Test.YtgkjmacdllibmaaDoorTold
import Derived.Deep.AppendLies
import Derived.Deep.RegionLaw
namespace Go.Proofs.YtgkjmacdllibmaaDoor
open Go.RowKit Go.Mine Go.Mine.Dd

theorem allIn_take {need xs : List Int} {k : Nat} (hk : k < need.length) (h : allIn (need.take k) xs = true) (hx : decide (need.getD k 0 ∈ xs) = true) : allIn (need.take (k + 1)) xs = true := by
  rw [allIn_iff] at h ⊢
  intro x hx'
  rw [List.take_succ_eq_append_getElem hk, List.mem_append] at hx'
  rcases hx' with hx' | hx'
  · exact h x hx'
  · simp at hx'
    subst hx'
    simpa [hk] using hx
theorem allIn_not {need xs : List Int} {k : Nat} (hk : k < need.length) (hx : decide (need.getD k 0 ∈ xs) = false) : allIn need xs = false := by
  rw [← Bool.not_eq_true, allIn_iff]
  intro h
  have := h (need.getD k 0) (by simp [hk])
  simp only [decide_eq_false_iff_not] at hx
  exact hx this

/-- A sum as Go makes it. -/
def fsum (xs : List Int) : Int := xs.foldl (fun s x => wrap64 (s + x)) 0
theorem fsum_take {xs : List Int} {k : Nat} (hk : k < xs.length) : fsum (xs.take (k + 1)) = wrap64 (fsum (xs.take k) + xs.getD k 0) := by
  unfold fsum
  rw [List.take_succ_eq_append_getElem hk, List.foldl_append]
  simp [hk]

theorem mix_fun : ∃ f : Int → Int, ∀ (z : Int) (w : World), Calls Tryd.prog 17 #[.int .u64 z] w fun e w' => e = .returned (.int .u64 (f z)) ∧ w = w' := by
  constructor
  intro z w
  go_enter Tryd.func17, Tryd.ntmps17
  go_wp2
  go_ret
  exact ⟨rfl, rfl⟩

/-- What the closure finds. -/
structure Held (how limit : Int) (need : List Int) (bh bl bn : Nat) (an : Option Addr) (cn : Nat) (w : World) : Prop where
  c_how : w.cell? ⟨bh, 0, none⟩ = some (.int .i64 how)
  c_limit : w.cell? ⟨bl, 0, none⟩ = some (.int .i64 limit)
  c_need : w.cell? ⟨bn, 0, none⟩ = some (.slice an need.length cn)
  ints : IntsAt .i64 w an need
theorem Held.below {how limit : Int} {need : List Int} {bh bl bn : Nat} {an : Option Addr} {cn : Nat} {w w' : World} (h : Held how limit need bh bl bn an cn w) (hb : Below w.heap.size w w') : Held how limit need bh bl bn an cn w' :=
  ⟨(hb.cell (p := ⟨bh, 0, none⟩) (World.block_lt_of_cell? _ _ h.c_how)).trans h.c_how, (hb.cell (p := ⟨bl, 0, none⟩) (World.block_lt_of_cell? _ _ h.c_limit)).trans h.c_limit, (hb.cell (p := ⟨bn, 0, none⟩) (World.block_lt_of_cell? _ _ h.c_need)).trans h.c_need, h.ints.below (Nat.le_refl _) hb⟩

def FF (mx : Int → Int) (xs : List Int) : Bool := ((mx (IntKind.u64.wrap (wrap64 (wrap64 (31 * fsum xs) + (xs.length : Int))))).tmod 3 != 0)
set_option maxHeartbeats 400000 in
theorem fault_fun (how limit : Int) (need : List Int) (hln : need.length ≤ maxLen) : ∃ F : List Int → Bool, ∀ (bh bl bn : Nat) (an : Option Addr) (cn : Nat) (ao : Option Addr) (c : Nat) (xs : List Int) (w : World), Held how limit need bh bl bn an cn w → IntsAt .i64 w ao xs → xs.length ≤ 12 →
    Calls Tryd.prog 16 #[.slice ao xs.length c, .pointer (some ⟨bh, 0, none⟩), .pointer (some ⟨bl, 0, none⟩), .pointer (some ⟨bn, 0, none⟩)] w fun e w' => e = .returned (.bool (F xs)) ∧ w = w' := by
  unfold maxLen at hln
  obtain ⟨mx, hmx⟩ := mix_fun
  have HMX := Lib.hid hmx
  clear hmx
  by_cases h0 : how = 0
  · subst h0
    refine ⟨fun xs => decide (limit ≤ (xs.length : Int)), fun bh bl bn an cn ao c xs w hh hx hl => ?_⟩
    have c1 := hh.c_how
    have c2 := hh.c_limit
    clear hh hx
    go_enter Tryd.func16, Tryd.ntmps16
    go_wp2_with fail
    go_ret
    exact ⟨rfl, rfl⟩
  · have hd0 : (how == 0) = false := by simpa using h0
    clear h0
    by_cases h1 : how = 1
    · subst h1
      refine ⟨allIn need, fun bh bl bn an cn ao c xs w hh hx hl => ?_⟩
      have c1 := hh.c_how
      have c2 := hh.c_limit
      have c3 := hh.c_need
      have HN := Lib.hid hh.ints
      have HX := Lib.hid hx
      have HXL := Lib.hid (show xs.length ≤ maxLen by unfold maxLen; omega)
      clear hh hx
      go_enter Tryd.func16, Tryd.ntmps16
      go_wp2_with fail
      go_loop [6, 7] (fun s i => ∃ k : Nat, i = .int .i64 k ∧ s = .int .i64 (fsum (xs.take k)) ∧ k ≤ xs.length) (fun _ i => xs.length - (intOf i).toNat)
      case atStart => exact ⟨0, rfl, rfl, by omega⟩
      case round =>
        obtain ⟨k, rfl, rfl, hk⟩ := hrel
        by_cases hlt : k < xs.length
        · obtain ⟨b, o, rfl, hcc⟩ := HX.out k hlt
          have HF := Lib.hid (fsum_take hlt)
          go_wp2_with fail
          go_round
          case rel => exact ⟨k + 1, by go_num, by rw [HF.out]; simp [hlt], by omega⟩
          case measure => simp [intOf]; omega
        · have hke : k = xs.length := by omega
          subst hke
          rw [List.take_length]
          go_wp2_with fail
          go_loop [8] (fun i => ∃ j : Nat, i = .int .i64 j ∧ j ≤ need.length ∧ RowKit.Hid (allIn (need.take j) xs = true)) (fun i => need.length - (intOf i).toNat)
          case atStart => exact ⟨0, rfl, by omega, Lib.hid rfl⟩
          case round =>
            obtain ⟨j, rfl, hj, HALL⟩ := hrel
            by_cases hjn : j < need.length
            · obtain ⟨b, o, rfl, hcc⟩ := HN.out j hjn
              have HIN := In_any xs (need.getD j 0) ao c w HX.out HXL.out
              obtain ⟨d, hd⟩ : ∃ d, d = decide (need.getD j 0 ∈ xs) := ⟨_, rfl⟩
              have HD := Lib.hid hd.symm
              rw [← hd] at HIN
              clear hd
              obtain ⟨z, hz⟩ : ∃ z, z = need.getD j 0 := ⟨_, rfl⟩
              rw [← hz] at hcc HIN
              clear hz
              go_wp2_with fail
              refine HIN.mono ?_
              rintro e w' ⟨rfl, rfl⟩
              cases d
              · go_wp2_with fail
                go_ret
                exact ⟨by rw [allIn_not hjn HD.out]; rfl, rfl⟩
              · go_wp2_with fail
                go_round
                case rel => exact ⟨j + 1, by go_num, by omega, Lib.hid (allIn_take hjn HALL.out HD.out)⟩
                case measure => simp [intOf]; omega
            · have hje : j = need.length := by omega
              subst hje
              go_wp2_with fail
              go_ret
              exact ⟨by have h := HALL.out; rw [List.take_length] at h; rw [h]; rfl, rfl⟩
    · have hd1 : (how == 1) = false := by simpa using h1
      clear h1
      by_cases h2 : how = 2
      · subst h2
        refine ⟨fun xs => decide (limit ≤ fsum xs), fun bh bl bn an cn ao c xs w hh hx hl => ?_⟩
        have c1 := hh.c_how
        have c2 := hh.c_limit
        have c3 := hh.c_need
        have HN := Lib.hid hh.ints
        have HX := Lib.hid hx
        have HXL := Lib.hid (show xs.length ≤ maxLen by unfold maxLen; omega)
        clear hh hx
        go_enter Tryd.func16, Tryd.ntmps16
        go_wp2_with fail
        go_loop [6, 7] (fun s i => ∃ k : Nat, i = .int .i64 k ∧ s = .int .i64 (fsum (xs.take k)) ∧ k ≤ xs.length) (fun _ i => xs.length - (intOf i).toNat)
        case atStart => exact ⟨0, rfl, rfl, by omega⟩
        case round =>
          obtain ⟨k, rfl, rfl, hk⟩ := hrel
          by_cases hlt : k < xs.length
          · obtain ⟨b, o, rfl, hcc⟩ := HX.out k hlt
            have HF := Lib.hid (fsum_take hlt)
            go_wp2_with fail
            go_round
            case rel => exact ⟨k + 1, by go_num, by rw [HF.out]; simp [hlt], by omega⟩
            case measure => simp [intOf]; omega
          · have hke : k = xs.length := by omega
            subst hke
            rw [List.take_length]
            go_wp2_with fail
            go_ret
            exact ⟨rfl, rfl⟩
      · have hd2 : (how == 2) = false := by simpa using h2
        clear h2
        refine ⟨fun xs => FF mx xs, fun bh bl bn an cn ao c xs w hh hx hl => ?_⟩
        have c1 := hh.c_how
        have c2 := hh.c_limit
        have c3 := hh.c_need
        have HN := Lib.hid hh.ints
        have HX := Lib.hid hx
        have HXL := Lib.hid (show xs.length ≤ maxLen by unfold maxLen; omega)
        clear hh hx
        go_enter Tryd.func16, Tryd.ntmps16
        go_wp2_with fail
        go_loop [6, 7] (fun s i => ∃ k : Nat, i = .int .i64 k ∧ s = .int .i64 (fsum (xs.take k)) ∧ k ≤ xs.length) (fun _ i => xs.length - (intOf i).toNat)
        case atStart => exact ⟨0, rfl, rfl, by omega⟩
        case round =>
          obtain ⟨k, rfl, rfl, hk⟩ := hrel
          by_cases hlt : k < xs.length
          · obtain ⟨b, o, rfl, hcc⟩ := HX.out k hlt
            have HF := Lib.hid (fsum_take hlt)
            go_wp2_with fail
            go_round
            case rel => exact ⟨k + 1, by go_num, by rw [HF.out]; simp [hlt], by omega⟩
            case measure => simp [intOf]; omega
          · have hke : k = xs.length := by omega
            subst hke
            rw [List.take_length]
            go_wp2_with fail
            refine (HMX.out _ _).mono ?_
            rintro e w' ⟨rfl, rfl⟩
            go_wp2_with fail
            go_ret
            exact ⟨rfl, rfl⟩

theorem told_error (x : Value) (c d : Int) (hx : (x = .nilIface ∧ c = 0) ∨ x = .iface 31 (.int .i64 c)) (w : World) (hg : Laid w) :
    Calls Tryd.prog 9 #[x, .int .i64 d] w fun e w' => e = .returned (.bool (c == d)) ∧ Below w.heap.size w w' := by
  have H := told_any x c hx w hg
  go_enter Tryd.func9, Tryd.ntmps9
  go_wp2_with fail
  refine H.mono ?_
  rintro e w' ⟨rfl, hb⟩
  clear H
  go_wp2_with fail
  go_ret
  exact ⟨rfl, hb⟩

/-- assayersame.Told of two errors of one number. -/
theorem told_same (x y : Value) (c : Int) (hx : (x = .nilIface ∧ c = 0) ∨ x = .iface 31 (.int .i64 c)) (hy : (y = .nilIface ∧ c = 0) ∨ y = .iface 31 (.int .i64 c)) (w : World) (hg : Laid w) :
    Calls Tryd.prog 15 #[x, y] w fun e w' => e = .returned (.bool true) ∧ Below w.heap.size w w' := by
  have H := told_any x c hx w hg
  have HY := Lib.hid hy
  have HG := Lib.hid hg
  clear hx hy hg
  go_enter Tryd.func15, Tryd.ntmps15
  go_wp2_with fail
  refine H.mono ?_
  rintro e w1 ⟨rfl, hb1⟩
  have H2 := told_any y c HY.out w1 (HG.out.below hb1)
  have HB1 := Lib.hid hb1
  clear H hb1
  go_wp2_with fail
  refine H2.mono ?_
  rintro e w2 ⟨rfl, hb2⟩
  have HB2 := Lib.hid (HB1.out.trans (hb2.mono HB1.out.size))
  clear H2 hb2
  go_wp2_with fail
  go_ret
  exact ⟨by simp, HB2.out⟩
end Go.Proofs.YtgkjmacdllibmaaDoor
