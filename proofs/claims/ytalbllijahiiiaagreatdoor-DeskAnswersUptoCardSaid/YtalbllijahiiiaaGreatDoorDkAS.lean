/- (*desk).run; the forms run, less. Printed by genrun.py. -/
import Derived.Test.YtalbllijahiiiaaGreatDoorDkAR
import Derived.Deep.Cut
import Derived.Deep.CutRange
namespace Go.Proofs.YtalbllijahiiiaaGreatDoor
open Go.RowKit Go.Mine Go.Mine.Desk

def runText (st : St) (sd many : Int) : Except Int (Bytes × St) := match runR st.1 st.2 sd many with
  | .error c => .error c
  | .ok (r, none) => .ok (Go.Lib.itoa r, st)
  | .ok (r, some (l, k)) => .ok (Go.Lib.itoa r ++ (32 :: (ttext l ++ 32 :: Go.Lib.itoa k)), st)
def runF2 (st : St) (x y : Bytes) : Except Int (Bytes × St) := match wordV x, wordV y with
  | some a, some b => runText st a b
  | _, _ => .error 7
structure RepAt (w wx : World) (rb : Nat) (r : Int) (b : Bool) (po : Option Addr) (pn pc : Nat) (l : List Int) (k : Int) : Prop where
  below : Below w.heap.size w wx
  blk : Blk wx rb 66 #[.int .i64 r, .bool b, .slice po pn pc, .int .i64 k]
  ints : IntsAt .i64 wx po l
theorem ints_low {w w' : World} {po : Option Addr} {xs : List Int} {n : Nat} (h : IntsAt .i64 w po xs) (hn : w.heap.size ≤ n) (hs : ∀ k, k < n → k < w.heap.size → w'.heap[k]? = w.heap[k]?) : IntsAt .i64 w' po xs := fun j hj => by
  obtain ⟨q, o, h1, h2⟩ := h j hj
  have hl := World.block_lt_of_cell? w _ h2
  exact ⟨q, o, h1, (World.cell?_of_block (w := w) (hs q (by exact Nat.lt_of_lt_of_le hl hn) hl)).trans h2⟩
set_option maxRecDepth 100000 in
set_option maxHeartbeats 8000000 in
theorem drun_any (db : Nat) (g : G) (n : Int) (sd many : Int) (hmany : near many) (w : World) (hg : Gl w) (hd : DeskAt w db g n) :
    Calls Tryz.prog 65 #[.pointer (some ⟨db, 0, none⟩), .int .i64 sd, .int .i64 many] w (FormPost (g, n) (runText (g, n) sd many) db w) := by
  obtain ⟨d, hd⟩ := hd
  have e0 : w.cell? ⟨db, 0, none⟩ = some (.int .i64 d.gk) := hd.blk.cell 0
  have e1 : w.cell? ⟨db, 1, none⟩ = some (.int .i64 d.ga) := hd.blk.cell 1
  have e2 : w.cell? ⟨db, 2, none⟩ = some (.int .i64 d.gb) := hd.blk.cell 2
  have e3 : w.cell? ⟨db, 3, none⟩ = some (.slice d.gao d.gn d.gc) := hd.blk.cell 3
  have e4 : w.cell? ⟨db, 4, none⟩ = some (.int .i64 7) := hd.blk.cell 4
  have e5 : w.cell? ⟨db, 5, none⟩ = some (.int .i64 0) := hd.blk.cell 5
  have e6 : w.cell? ⟨db, 6, none⟩ = some (.slice (some ⟨d.eb, 0, none⟩) 2 2) := hd.blk.cell 6
  have hdl : db < w.heap.size := hd.blk.lt
  have HS := Lib.hid (fun (w' : World) (hb : Below w.heap.size w w') => (show (fun w' => w'.cell? ⟨db, 0, none⟩ = some (.int .i64 d.gk) ∧ w'.cell? ⟨db, 1, none⟩ = some (.int .i64 d.ga) ∧ w'.cell? ⟨db, 2, none⟩ = some (.int .i64 d.gb) ∧ w'.cell? ⟨db, 3, none⟩ = some (.slice d.gao d.gn d.gc) ∧ w'.cell? ⟨db, 4, none⟩ = some (.int .i64 7) ∧ w'.cell? ⟨db, 5, none⟩ = some (.int .i64 0) ∧ w'.cell? ⟨db, 6, none⟩ = some (.slice (some ⟨d.eb, 0, none⟩) 2 2)) w' from ⟨(hb.cell (by exact hdl)).trans e0, (hb.cell (by exact hdl)).trans e1, (hb.cell (by exact hdl)).trans e2, (hb.cell (by exact hdl)).trans e3, (hb.cell (by exact hdl)).trans e4, (hb.cell (by exact hdl)).trans e5, (hb.cell (by exact hdl)).trans e6⟩))
  have HD := Lib.hid (And.intro hd hg)
  have HB0 := Lib.hid (show Below w.heap.size w w.drew from (Below.refl _ _).drew)
  have HRN := Lib.hid (fun (wx : World) (hbx : Below w.heap.size w wx) => run_any g d.gen hd.right n d.eb sd many hmany wx (hg.on hbx) ((show Blk w d.eb _ _ from hd.expr).below hbx) (hd.gen.on hbx))
  clear hd hg
  cases hq : runR g n sd many with
  | error c =>
    have HQ := Lib.hid hq
    clear hq
    go_enter Tryz.func65, Tryz.ntmps65
    go_wp2_with fail
    refine wp_region_held_drew (S := fun w' => w'.cell? ⟨db, 0, none⟩ = some (.int .i64 d.gk) ∧ w'.cell? ⟨db, 1, none⟩ = some (.int .i64 d.ga) ∧ w'.cell? ⟨db, 2, none⟩ = some (.int .i64 d.gb) ∧ w'.cell? ⟨db, 3, none⟩ = some (.slice d.gao d.gn d.gc) ∧ w'.cell? ⟨db, 4, none⟩ = some (.int .i64 7) ∧ w'.cell? ⟨db, 5, none⟩ = some (.int .i64 0) ∧ w'.cell? ⟨db, 6, none⟩ = some (.slice (some ⟨d.eb, 0, none⟩) 2 2)) (by kernel_rfl) ?hS0q1 (fun hHeld => ?_)
    case hS0q1 => exact HS.out _ HB0.out
    refine wpAnyH_take (i := 0) (v := ?vvq2) rfl (by kernel_rfl) (by kernel_rfl) (by kernel_rfl) (fun _ _ _ h => h) (Or.inl ⟨by rfl, ?hyq2⟩) (by assumption) ?restq2
    case hyq2 => ((intro w hSw; (try dsimp only at hSw); go_simp) <;> with_reducible rfl)
    try simp only [sA, sC, Act.put, sD, sE, sF]
    refine wpAnyH_take (i := 1) (v := ?vvq3) rfl (by kernel_rfl) (by kernel_rfl) (by kernel_rfl) (fun _ _ _ h => h) (Or.inl ⟨by rfl, ?hyq3⟩) (by assumption) ?restq3
    case hyq3 => ((intro w hSw; (try dsimp only at hSw); go_simp) <;> with_reducible rfl)
    try simp only [sA, sB, sC, Act.put, sD, sE, sF]
    refine wpAnyH_take (i := 2) (v := ?vvq4) rfl (by kernel_rfl) (by kernel_rfl) (by kernel_rfl) (fun _ _ _ h => h) (Or.inl ⟨by rfl, ?hyq4⟩) (by assumption) ?restq4
    case hyq4 => ((intro w hSw; (try dsimp only at hSw); go_simp) <;> with_reducible rfl)
    try simp only [sA, sB, sC, Act.put, sD, sE, sF]
    refine wpAnyH_take (i := 3) (v := ?vvq5) rfl (by kernel_rfl) (by kernel_rfl) (by kernel_rfl) (fun _ _ _ h => h) (Or.inl ⟨by rfl, ?hyq5⟩) (by assumption) ?restq5
    case hyq5 => ((intro w hSw; (try dsimp only at hSw); go_simp) <;> with_reducible rfl)
    try simp only [sA, sB, sC, Act.put, sD, sE, sF]
    refine wpAnyH_take (i := 4) (v := ?vvq6) rfl (by kernel_rfl) (by kernel_rfl) (by kernel_rfl) (fun _ _ _ h => h) (Or.inl ⟨by rfl, ?hyq6⟩) (by assumption) ?restq6
    case hyq6 => ((intro w hSw; (try dsimp only at hSw); go_simp) <;> with_reducible rfl)
    try simp only [sA, sB, sC, Act.put, sD, sE, sF]
    refine wpAnyH_take (i := 5) (v := ?vvq7) rfl (by kernel_rfl) (by kernel_rfl) (by kernel_rfl) (fun _ _ _ h => h) (Or.inl ⟨by rfl, ?hyq7⟩) (by assumption) ?restq7
    case hyq7 => ((intro w hSw; (try dsimp only at hSw); go_simp) <;> with_reducible rfl)
    try simp only [sA, sB, sC, Act.put, sD, sE, sF]
    refine wpAnyH_take (i := 6) (v := ?vvq8) rfl (by kernel_rfl) (by kernel_rfl) (by kernel_rfl) (fun _ _ _ h => h) (Or.inl ⟨by rfl, ?hyq8⟩) (by assumption) ?restq8
    case hyq8 => ((intro w hSw; (try dsimp only at hSw); go_simp) <;> with_reducible rfl)
    try simp only [sA, sB, sC, Act.put, sD, sE, sF]
    refine wpAnyH_take (i := 7) (v := ?vvq9) rfl (by kernel_rfl) (by kernel_rfl) (by kernel_rfl) (fun _ _ _ h => h) (Or.inl ⟨by rfl, ?hyq9⟩) (by assumption) ?restq9
    case hyq9 => ((intro w hSw; (try dsimp only at hSw); go_simp) <;> with_reducible rfl)
    try simp only [sA, sB, sC, Act.put, sD, sE, sF]
    refine wpAnyH_take (i := 8) (v := ?vvq10) rfl (by kernel_rfl) (by kernel_rfl) (by kernel_rfl) (fun _ _ _ h => h) (Or.inl ⟨by rfl, ?hyq10⟩) (by assumption) ?restq10
    case hyq10 => ((intro w hSw; (try dsimp only at hSw); go_simp) <;> with_reducible rfl)
    try simp only [sA, sB, sC, Act.put, sD, sE, sF]
    refine wpAnyH_take (i := 9) (v := ?vvq11) rfl (by kernel_rfl) (by kernel_rfl) (by kernel_rfl) (fun _ _ _ h => h) (Or.inl ⟨by rfl, ?hyq11⟩) (by assumption) ?restq11
    case hyq11 => ((intro w hSw; (try dsimp only at hSw); go_simp) <;> with_reducible rfl)
    try simp only [sA, sB, sC, Act.put, sD, sE, sF]
    refine wpAnyH_ready (rs := [10, 14]) (by kernel_rfl) (by simp) ?_
    refine AllReadyH.cons rfl (fun K hK => ?_) (AllReadyH.cons rfl (fun K hK => ?_) AllReadyH.nil)
    · go_simp
      go_at_call 98
      refine (HRN.out _ HB0.out).mono ?_
      rintro e w2 ⟨hb, hhow⟩
      have HB2 := Lib.hid ((HB0.out).trans (hb.mono (HB0.out).size))
      have hp : e = .returned (.tuple #[.agg #[.int .i64 0, .bool false, .slice none 0 0, .int .i64 0], .iface 36 (.int .i64 c)]) := by
        rcases hhow with ⟨c', h1, h2⟩ | ⟨r, h1, _⟩ | ⟨r, l, k, uo, uc, h1, _⟩
        · rw [HQ.out] at h1
          cases h1
          exact h2
        · rw [HQ.out] at h1
          cases h1
        · rw [HQ.out] at h1
          cases h1
      subst hp
      clear hhow
      refine hK.out _ _ ?hSq13 (fun hHeld => ?_)
      case hSq13 => exact HS.out _ HB2.out
      clear hK K
      try simp only [sA, sB, sC, Act.put, sD, sE, sF]
      refine wpAnyH_take (i := 11) (v := ?vvq14) rfl (by kernel_rfl) (by kernel_rfl) (by kernel_rfl) (fun _ _ _ h => h) (Or.inl ⟨by rfl, ?hyq14⟩) (by assumption) ?restq14
      case hyq14 => ((intro w hSw; (try dsimp only at hSw); go_simp) <;> with_reducible rfl)
      try simp only [sA, sB, sC, Act.put, sD, sE, sF]
      refine wpAnyH_take (i := 12) (v := ?vvq15) rfl (by kernel_rfl) (by kernel_rfl) (by kernel_rfl) (fun _ _ _ h => h) (Or.inl ⟨by rfl, ?hyq15⟩) (by assumption) ?restq15
      case hyq15 => ((intro w hSw; (try dsimp only at hSw); go_simp) <;> with_reducible rfl)
      try simp only [sA, sB, sC, Act.put, sD, sE, sF]
      refine wpAnyH_ready (rs := [13, 14]) (by kernel_rfl) (by simp) ?_
      refine AllReadyH.cons rfl (fun K hK => ?_) (AllReadyH.cons rfl (fun K hK => ?_) AllReadyH.nil)
      · go_simp
        go_at_call 97
        refine (must_rep_err 0 false none 0 0 0 c _).mono ?_
        rintro e w4 ⟨rfl, hb⟩
        have HB4 := Lib.hid ((HB2.out).trans (hb.mono (HB2.out).size))
        go_simp
        exact body_panics (HD.out.1.idle HB4.out (by unfold runText; rw [HQ.out]))
      · go_simp
        have HB3 := Lib.hid (show Below w.heap.size w (w2.alloc (.cells #[.int .i64 0, .bool false, .slice none 0 0, .int .i64 0] 66)) from HB2.out.alloc HB2.out.size _)
        have HZ := Lib.hid (show Blk (w2.alloc (.cells #[.int .i64 0, .bool false, .slice none 0 0, .int .i64 0] 66)) w2.heap.size _ _ from Blk.new _ _ _)
        refine hK.out _ _ ?hSq18 (fun hHeld => ?_)
        case hSq18 => exact HS.out _ HB3.out
        clear hK K
        try simp only [sA, sB, sC, Act.put, sD, sE, sF]
        refine wpAnyH_ready (rs := [13]) (by kernel_rfl) (by simp) ?_
        refine AllReadyH.cons rfl (fun K hK => ?_) AllReadyH.nil
        go_simp
        go_at_call 97
        refine (must_rep_err 0 false none 0 0 0 c _).mono ?_
        rintro e w4 ⟨rfl, hb⟩
        have HB4 := Lib.hid ((HB3.out).trans (hb.mono (HB3.out).size))
        go_simp
        exact body_panics (HD.out.1.idle HB4.out (by unfold runText; rw [HQ.out]))
    · go_simp
      have HB1 := Lib.hid (show Below w.heap.size w (w.alloc (.cells #[.int .i64 0, .bool false, .slice none 0 0, .int .i64 0] 66)).drew from ((Below.refl _ _).alloc (Nat.le_refl _) _).drew)
      refine hK.out _ _ ?hSq20 (fun hHeld => ?_)
      case hSq20 => exact HS.out _ HB1.out
      clear hK K
      try simp only [sA, sB, sC, Act.put, sD, sE, sF]
      refine wpAnyH_ready (rs := [10]) (by kernel_rfl) (by simp) ?_
      refine AllReadyH.cons rfl (fun K hK => ?_) AllReadyH.nil
      go_simp
      go_at_call 98
      refine (HRN.out _ HB1.out).mono ?_
      rintro e w2 ⟨hb, hhow⟩
      have HB2 := Lib.hid ((HB1.out).trans (hb.mono (HB1.out).size))
      have hp : e = .returned (.tuple #[.agg #[.int .i64 0, .bool false, .slice none 0 0, .int .i64 0], .iface 36 (.int .i64 c)]) := by
        rcases hhow with ⟨c', h1, h2⟩ | ⟨r, h1, _⟩ | ⟨r, l, k, uo, uc, h1, _⟩
        · rw [HQ.out] at h1
          cases h1
          exact h2
        · rw [HQ.out] at h1
          cases h1
        · rw [HQ.out] at h1
          cases h1
      subst hp
      clear hhow
      refine hK.out _ _ ?hSq21 (fun hHeld => ?_)
      case hSq21 => exact HS.out _ HB2.out
      clear hK K
      try simp only [sA, sB, sC, Act.put, sD, sE, sF]
      refine wpAnyH_take (i := 11) (v := ?vvq22) rfl (by kernel_rfl) (by kernel_rfl) (by kernel_rfl) (fun _ _ _ h => h) (Or.inl ⟨by rfl, ?hyq22⟩) (by assumption) ?restq22
      case hyq22 => ((intro w hSw; (try dsimp only at hSw); go_simp) <;> with_reducible rfl)
      try simp only [sA, sB, sC, Act.put, sD, sE, sF]
      refine wpAnyH_take (i := 12) (v := ?vvq23) rfl (by kernel_rfl) (by kernel_rfl) (by kernel_rfl) (fun _ _ _ h => h) (Or.inl ⟨by rfl, ?hyq23⟩) (by assumption) ?restq23
      case hyq23 => ((intro w hSw; (try dsimp only at hSw); go_simp) <;> with_reducible rfl)
      try simp only [sA, sB, sC, Act.put, sD, sE, sF]
      refine wpAnyH_ready (rs := [13]) (by kernel_rfl) (by simp) ?_
      refine AllReadyH.cons rfl (fun K hK => ?_) AllReadyH.nil
      go_simp
      go_at_call 97
      refine (must_rep_err 0 false none 0 0 0 c _).mono ?_
      rintro e w4 ⟨rfl, hb⟩
      have HB4 := Lib.hid ((HB2.out).trans (hb.mono (HB2.out).size))
      go_simp
      exact body_panics (HD.out.1.idle HB4.out (by unfold runText; rw [HQ.out]))
  | ok q =>
    obtain ⟨r, q2⟩ := q
    cases q2 with
    | none =>
      have HQ := Lib.hid hq
      clear hq
      go_enter Tryz.func65, Tryz.ntmps65
      go_upto_region 1 with fail
      go_cut [7] from 9 to 39 (fun rv wx => ∃ rb, rv = .pointer (some ⟨rb, 0, none⟩) ∧ i64ok r ∧ RowKit.Hid (RepAt w wx rb r false none 0 0 [] 0))
      case first =>
        refine wp_region_held_drew (S := fun w' => w'.cell? ⟨db, 0, none⟩ = some (.int .i64 d.gk) ∧ w'.cell? ⟨db, 1, none⟩ = some (.int .i64 d.ga) ∧ w'.cell? ⟨db, 2, none⟩ = some (.int .i64 d.gb) ∧ w'.cell? ⟨db, 3, none⟩ = some (.slice d.gao d.gn d.gc) ∧ w'.cell? ⟨db, 4, none⟩ = some (.int .i64 7) ∧ w'.cell? ⟨db, 5, none⟩ = some (.int .i64 0) ∧ w'.cell? ⟨db, 6, none⟩ = some (.slice (some ⟨d.eb, 0, none⟩) 2 2)) (by kernel_rfl) ?hS0q25 (fun hHeld => ?_)
        case hS0q25 => exact HS.out _ HB0.out
        refine wpAnyH_take (i := 0) (v := ?vvq26) rfl (by kernel_rfl) (by kernel_rfl) (by kernel_rfl) (fun _ _ _ h => h) (Or.inl ⟨by rfl, ?hyq26⟩) (by assumption) ?restq26
        case hyq26 => ((intro w hSw; (try dsimp only at hSw); go_simp) <;> with_reducible rfl)
        try simp only [sA, sC, Act.put, sD, sE, sF]
        refine wpAnyH_take (i := 1) (v := ?vvq27) rfl (by kernel_rfl) (by kernel_rfl) (by kernel_rfl) (fun _ _ _ h => h) (Or.inl ⟨by rfl, ?hyq27⟩) (by assumption) ?restq27
        case hyq27 => ((intro w hSw; (try dsimp only at hSw); go_simp) <;> with_reducible rfl)
        try simp only [sA, sB, sC, Act.put, sD, sE, sF]
        refine wpAnyH_take (i := 2) (v := ?vvq28) rfl (by kernel_rfl) (by kernel_rfl) (by kernel_rfl) (fun _ _ _ h => h) (Or.inl ⟨by rfl, ?hyq28⟩) (by assumption) ?restq28
        case hyq28 => ((intro w hSw; (try dsimp only at hSw); go_simp) <;> with_reducible rfl)
        try simp only [sA, sB, sC, Act.put, sD, sE, sF]
        refine wpAnyH_take (i := 3) (v := ?vvq29) rfl (by kernel_rfl) (by kernel_rfl) (by kernel_rfl) (fun _ _ _ h => h) (Or.inl ⟨by rfl, ?hyq29⟩) (by assumption) ?restq29
        case hyq29 => ((intro w hSw; (try dsimp only at hSw); go_simp) <;> with_reducible rfl)
        try simp only [sA, sB, sC, Act.put, sD, sE, sF]
        refine wpAnyH_take (i := 4) (v := ?vvq30) rfl (by kernel_rfl) (by kernel_rfl) (by kernel_rfl) (fun _ _ _ h => h) (Or.inl ⟨by rfl, ?hyq30⟩) (by assumption) ?restq30
        case hyq30 => ((intro w hSw; (try dsimp only at hSw); go_simp) <;> with_reducible rfl)
        try simp only [sA, sB, sC, Act.put, sD, sE, sF]
        refine wpAnyH_take (i := 5) (v := ?vvq31) rfl (by kernel_rfl) (by kernel_rfl) (by kernel_rfl) (fun _ _ _ h => h) (Or.inl ⟨by rfl, ?hyq31⟩) (by assumption) ?restq31
        case hyq31 => ((intro w hSw; (try dsimp only at hSw); go_simp) <;> with_reducible rfl)
        try simp only [sA, sB, sC, Act.put, sD, sE, sF]
        refine wpAnyH_take (i := 6) (v := ?vvq32) rfl (by kernel_rfl) (by kernel_rfl) (by kernel_rfl) (fun _ _ _ h => h) (Or.inl ⟨by rfl, ?hyq32⟩) (by assumption) ?restq32
        case hyq32 => ((intro w hSw; (try dsimp only at hSw); go_simp) <;> with_reducible rfl)
        try simp only [sA, sB, sC, Act.put, sD, sE, sF]
        refine wpAnyH_take (i := 7) (v := ?vvq33) rfl (by kernel_rfl) (by kernel_rfl) (by kernel_rfl) (fun _ _ _ h => h) (Or.inl ⟨by rfl, ?hyq33⟩) (by assumption) ?restq33
        case hyq33 => ((intro w hSw; (try dsimp only at hSw); go_simp) <;> with_reducible rfl)
        try simp only [sA, sB, sC, Act.put, sD, sE, sF]
        refine wpAnyH_take (i := 8) (v := ?vvq34) rfl (by kernel_rfl) (by kernel_rfl) (by kernel_rfl) (fun _ _ _ h => h) (Or.inl ⟨by rfl, ?hyq34⟩) (by assumption) ?restq34
        case hyq34 => ((intro w hSw; (try dsimp only at hSw); go_simp) <;> with_reducible rfl)
        try simp only [sA, sB, sC, Act.put, sD, sE, sF]
        refine wpAnyH_take (i := 9) (v := ?vvq35) rfl (by kernel_rfl) (by kernel_rfl) (by kernel_rfl) (fun _ _ _ h => h) (Or.inl ⟨by rfl, ?hyq35⟩) (by assumption) ?restq35
        case hyq35 => ((intro w hSw; (try dsimp only at hSw); go_simp) <;> with_reducible rfl)
        try simp only [sA, sB, sC, Act.put, sD, sE, sF]
        refine wpAnyH_ready (rs := [10, 14]) (by kernel_rfl) (by simp) ?_
        refine AllReadyH.cons rfl (fun K hK => ?_) (AllReadyH.cons rfl (fun K hK => ?_) AllReadyH.nil)
        · go_simp
          go_at_call 98
          refine (HRN.out _ HB0.out).mono ?_
          rintro e w2 ⟨hb, hhow⟩
          have HB2 := Lib.hid ((HB0.out).trans (hb.mono (HB0.out).size))
          have hp : i64ok r ∧ e = .returned (.tuple #[.agg #[.int .i64 r, .bool false, .slice none 0 0, .int .i64 0], .nilIface]) := by
            rcases hhow with ⟨c', h1, h2⟩ | ⟨r', h1, h2, h3⟩ | ⟨r', l, k, uo, uc, h1, _⟩
            · rw [HQ.out] at h1
              cases h1
            · rw [HQ.out] at h1
              cases h1
              exact ⟨h2, h3⟩
            · rw [HQ.out] at h1
              cases h1
          obtain ⟨hr64, hp⟩ := hp
          subst hp
          have HX2 := Lib.hid hr64
          clear hhow hr64
          refine hK.out _ _ ?hSq37 (fun hHeld => ?_)
          case hSq37 => exact HS.out _ HB2.out
          clear hK K
          try simp only [sA, sB, sC, Act.put, sD, sE, sF]
          refine wpAnyH_take (i := 11) (v := ?vvq38) rfl (by kernel_rfl) (by kernel_rfl) (by kernel_rfl) (fun _ _ _ h => h) (Or.inl ⟨by rfl, ?hyq38⟩) (by assumption) ?restq38
          case hyq38 => ((intro w hSw; (try dsimp only at hSw); go_simp) <;> with_reducible rfl)
          try simp only [sA, sB, sC, Act.put, sD, sE, sF]
          refine wpAnyH_take (i := 12) (v := ?vvq39) rfl (by kernel_rfl) (by kernel_rfl) (by kernel_rfl) (fun _ _ _ h => h) (Or.inl ⟨by rfl, ?hyq39⟩) (by assumption) ?restq39
          case hyq39 => ((intro w hSw; (try dsimp only at hSw); go_simp) <;> with_reducible rfl)
          try simp only [sA, sB, sC, Act.put, sD, sE, sF]
          refine wpAnyH_ready (rs := [13, 14]) (by kernel_rfl) (by simp) ?_
          refine AllReadyH.cons rfl (fun K hK => ?_) (AllReadyH.cons rfl (fun K hK => ?_) AllReadyH.nil)
          · go_simp
            go_at_call 97
            refine (must_rep r false none 0 0 0 _).mono ?_
            rintro e w4 ⟨rfl, hb⟩
            have HB4 := Lib.hid ((HB2.out).trans (hb.mono (HB2.out).size))
            have HC4 := Lib.hid hb
            clear hb
            refine hK.out _ _ ?hSq41 (fun hHeld => ?_)
            case hSq41 => exact HS.out _ HB4.out
            clear hK K
            try simp only [sA, sB, sC, Act.put, sD, sE, sF]
            refine wpAnyH_ready (rs := [14]) (by kernel_rfl) (by simp) ?_
            refine AllReadyH.cons rfl (fun K hK => ?_) AllReadyH.nil
            go_simp
            have HB45 := Lib.hid (show Below w.heap.size w (w4.alloc (.cells #[.int .i64 0, .bool false, .slice none 0 0, .int .i64 0] 66)) from HB4.out.alloc HB4.out.size _)
            refine hK.out _ _ ?hSq42 (fun hHeld => ?_)
            case hSq42 => exact HS.out _ HB45.out
            clear hK K
            try simp only [sA, sB, sC, Act.put, sD, sE, sF]
            refine wpAnyH_ready (rs := [15]) (by kernel_rfl) (by simp) ?_
            refine AllReadyH.cons rfl (fun K hK => ?_) AllReadyH.nil
            go_simp
            have HB5 := Lib.hid (show Below w.heap.size w (w4.alloc (.cells #[.int .i64 (r), .bool false, .slice none 0 0, .int .i64 0] 66)) from HB4.out.alloc HB4.out.size _)
            refine hK.out _ _ ?hSq43 (fun hHeld => ?_)
            case hSq43 => exact HS.out _ HB5.out
            clear hK K
            try simp only [sA, sB, sC, Act.put, sD, sE, sF]
            refine wpAnyH_done (by kernel_rfl) ?_ _
            go_wp2_with fail
            go_meet
            case rel => exact ⟨w4.heap.size, rfl, HX2.out, Lib.hid ⟨HB5.out, Blk.new _ _ _, IntsAt.nil _ _ _⟩⟩
          · go_simp
            have HB3 := Lib.hid (show Below w.heap.size w (w2.alloc (.cells #[.int .i64 0, .bool false, .slice none 0 0, .int .i64 0] 66)) from HB2.out.alloc HB2.out.size _)
            have HZ := Lib.hid (show Blk (w2.alloc (.cells #[.int .i64 0, .bool false, .slice none 0 0, .int .i64 0] 66)) w2.heap.size _ _ from Blk.new _ _ _)
            refine hK.out _ _ ?hSq44 (fun hHeld => ?_)
            case hSq44 => exact HS.out _ HB3.out
            clear hK K
            try simp only [sA, sB, sC, Act.put, sD, sE, sF]
            refine wpAnyH_ready (rs := [13]) (by kernel_rfl) (by simp) ?_
            refine AllReadyH.cons rfl (fun K hK => ?_) AllReadyH.nil
            go_simp
            go_at_call 97
            refine (must_rep r false none 0 0 0 _).mono ?_
            rintro e w4 ⟨rfl, hb⟩
            have HB4 := Lib.hid ((HB3.out).trans (hb.mono (HB3.out).size))
            have HC4 := Lib.hid hb
            clear hb
            refine hK.out _ _ ?hSq45 (fun hHeld => ?_)
            case hSq45 => exact HS.out _ HB4.out
            clear hK K
            try simp only [sA, sB, sC, Act.put, sD, sE, sF]
            refine wpAnyH_ready (rs := [15]) (by kernel_rfl) (by simp) ?_
            refine AllReadyH.cons rfl (fun K hK => ?_) AllReadyH.nil
            have kz := HZ.out.below HC4.out
            have z0 := kz.cell 0
            have z1 := kz.cell 1
            have z2 := kz.cell 2
            have z3 := kz.cell 3
            have y0 := kz.froz 0
            have y1 := kz.froz 1
            have y2 := kz.froz 2
            have y3 := kz.froz 3
            simp only [List.getElem?_toArray, List.getElem?_cons_zero, List.getElem?_cons_succ] at z0 z1 z2 z3
            go_simp
            have HB5 := Lib.hid (show Below w.heap.size w ((((w4.setCell ⟨w2.heap.size, 0, none⟩ (.int .i64 (r))).setCell ⟨w2.heap.size, 1, none⟩ (.bool false)).setCell ⟨w2.heap.size, 2, none⟩ (.slice none 0 0)).setCell ⟨w2.heap.size, 3, none⟩ (.int .i64 0)) from ((((HB4.out.setCell (by exact HB2.out.size) _).setCell (by exact HB2.out.size) _).setCell (by exact HB2.out.size) _).setCell (by exact HB2.out.size) _))
            have HZ5 := Lib.hid kz
            clear kz z0 z1 z2 z3 y0 y1 y2 y3
            refine hK.out _ _ ?hSq46 (fun hHeld => ?_)
            case hSq46 => exact HS.out _ HB5.out
            clear hK K
            try simp only [sA, sB, sC, Act.put, sD, sE, sF]
            refine wpAnyH_done (by kernel_rfl) ?_ _
            go_wp2_with fail
            go_meet
            case rel => exact ⟨w2.heap.size, rfl, HX2.out, Lib.hid ⟨HB5.out, by simpa using (((HZ5.out.set 0 (.int .i64 (r))).set 1 (.bool false)).set 2 (.slice none 0 0)).set 3 (.int .i64 0), IntsAt.nil _ _ _⟩⟩
        · go_simp
          have HB1 := Lib.hid (show Below w.heap.size w (w.alloc (.cells #[.int .i64 0, .bool false, .slice none 0 0, .int .i64 0] 66)).drew from ((Below.refl _ _).alloc (Nat.le_refl _) _).drew)
          have HZ := Lib.hid (show Blk (w.alloc (.cells #[.int .i64 0, .bool false, .slice none 0 0, .int .i64 0] 66)).drew w.heap.size _ _ from (Blk.new _ _ _).drew)
          refine hK.out _ _ ?hSq47 (fun hHeld => ?_)
          case hSq47 => exact HS.out _ HB1.out
          clear hK K
          try simp only [sA, sB, sC, Act.put, sD, sE, sF]
          refine wpAnyH_ready (rs := [10]) (by kernel_rfl) (by simp) ?_
          refine AllReadyH.cons rfl (fun K hK => ?_) AllReadyH.nil
          go_simp
          go_at_call 98
          refine (HRN.out _ HB1.out).mono ?_
          rintro e w2 ⟨hb, hhow⟩
          have HB2 := Lib.hid ((HB1.out).trans (hb.mono (HB1.out).size))
          have HC2 := Lib.hid hb
          have hp : i64ok r ∧ e = .returned (.tuple #[.agg #[.int .i64 r, .bool false, .slice none 0 0, .int .i64 0], .nilIface]) := by
            rcases hhow with ⟨c', h1, h2⟩ | ⟨r', h1, h2, h3⟩ | ⟨r', l, k, uo, uc, h1, _⟩
            · rw [HQ.out] at h1
              cases h1
            · rw [HQ.out] at h1
              cases h1
              exact ⟨h2, h3⟩
            · rw [HQ.out] at h1
              cases h1
          obtain ⟨hr64, hp⟩ := hp
          subst hp
          have HX2 := Lib.hid hr64
          clear hhow hr64
          refine hK.out _ _ ?hSq48 (fun hHeld => ?_)
          case hSq48 => exact HS.out _ HB2.out
          clear hK K
          try simp only [sA, sB, sC, Act.put, sD, sE, sF]
          refine wpAnyH_take (i := 11) (v := ?vvq49) rfl (by kernel_rfl) (by kernel_rfl) (by kernel_rfl) (fun _ _ _ h => h) (Or.inl ⟨by rfl, ?hyq49⟩) (by assumption) ?restq49
          case hyq49 => ((intro w hSw; (try dsimp only at hSw); go_simp) <;> with_reducible rfl)
          try simp only [sA, sB, sC, Act.put, sD, sE, sF]
          refine wpAnyH_take (i := 12) (v := ?vvq50) rfl (by kernel_rfl) (by kernel_rfl) (by kernel_rfl) (fun _ _ _ h => h) (Or.inl ⟨by rfl, ?hyq50⟩) (by assumption) ?restq50
          case hyq50 => ((intro w hSw; (try dsimp only at hSw); go_simp) <;> with_reducible rfl)
          try simp only [sA, sB, sC, Act.put, sD, sE, sF]
          refine wpAnyH_ready (rs := [13]) (by kernel_rfl) (by simp) ?_
          refine AllReadyH.cons rfl (fun K hK => ?_) AllReadyH.nil
          go_simp
          go_at_call 97
          refine (must_rep r false none 0 0 0 _).mono ?_
          rintro e w4 ⟨rfl, hb⟩
          have HB4 := Lib.hid ((HB2.out).trans (hb.mono (HB2.out).size))
          have HC4 := Lib.hid hb
          clear hb
          refine hK.out _ _ ?hSq51 (fun hHeld => ?_)
          case hSq51 => exact HS.out _ HB4.out
          clear hK K
          try simp only [sA, sB, sC, Act.put, sD, sE, sF]
          refine wpAnyH_ready (rs := [15]) (by kernel_rfl) (by simp) ?_
          refine AllReadyH.cons rfl (fun K hK => ?_) AllReadyH.nil
          have kz := (HZ.out.below HC2.out).below HC4.out
          have z0 := kz.cell 0
          have z1 := kz.cell 1
          have z2 := kz.cell 2
          have z3 := kz.cell 3
          have y0 := kz.froz 0
          have y1 := kz.froz 1
          have y2 := kz.froz 2
          have y3 := kz.froz 3
          simp only [List.getElem?_toArray, List.getElem?_cons_zero, List.getElem?_cons_succ] at z0 z1 z2 z3
          go_simp
          have HB5 := Lib.hid (show Below w.heap.size w ((((w4.setCell ⟨w.heap.size, 0, none⟩ (.int .i64 (r))).setCell ⟨w.heap.size, 1, none⟩ (.bool false)).setCell ⟨w.heap.size, 2, none⟩ (.slice none 0 0)).setCell ⟨w.heap.size, 3, none⟩ (.int .i64 0)) from ((((HB4.out.setCell (by exact Nat.le_refl _) _).setCell (by exact Nat.le_refl _) _).setCell (by exact Nat.le_refl _) _).setCell (by exact Nat.le_refl _) _))
          have HZ5 := Lib.hid kz
          clear kz z0 z1 z2 z3 y0 y1 y2 y3
          refine hK.out _ _ ?hSq52 (fun hHeld => ?_)
          case hSq52 => exact HS.out _ HB5.out
          clear hK K
          try simp only [sA, sB, sC, Act.put, sD, sE, sF]
          refine wpAnyH_done (by kernel_rfl) ?_ _
          go_wp2_with fail
          go_meet
          case rel => exact ⟨w.heap.size, rfl, HX2.out, Lib.hid ⟨HB5.out, by simpa using (((HZ5.out.set 0 (.int .i64 (r))).set 1 (.bool false)).set 2 (.slice none 0 0)).set 3 (.int .i64 0), IntsAt.nil _ _ _⟩⟩
      case rest =>
        obtain ⟨rb, rfl, hr64, HR⟩ := hcut
        have c0 : wc.cell? ⟨rb, 0, none⟩ = some (.int .i64 r) := HR.out.blk.cell 0
        have HI := Lib.hid (itoa_any r hr64 wc (HD.out.2.on HR.out.below))
        clear hr64
        go_wp2_with fail
        refine HI.out.mono ?_
        clear HI
        rintro e w6 ⟨rfl, hb6⟩
        have c1 : w6.cell? ⟨rb, 1, none⟩ = some (.bool false) := (HR.out.blk.below hb6).cell 1
        have HB6 := Lib.hid (HR.out.below.trans (hb6.mono HR.out.below.size))
        clear hb6
        go_wp2_with fail
        go_ret
        exact HD.out.1.says HB6.out (by unfold runText; rw [HQ.out])
    | some lk =>
      obtain ⟨l, k⟩ := lk
      have HQ := Lib.hid hq
      clear hq
      go_enter Tryz.func65, Tryz.ntmps65
      go_upto_region 1 with fail
      go_cut [7] from 9 to 39 (fun rv wx => ∃ rb uo uc, rv = .pointer (some ⟨rb, 0, none⟩) ∧ i64ok r ∧ i64ok k ∧ RowKit.Hid (l.length ≤ 6 ∧ tape1 l ∧ RepAt w wx rb r true uo l.length uc l k))
      case first =>
        refine wp_region_held_drew (S := fun w' => w'.cell? ⟨db, 0, none⟩ = some (.int .i64 d.gk) ∧ w'.cell? ⟨db, 1, none⟩ = some (.int .i64 d.ga) ∧ w'.cell? ⟨db, 2, none⟩ = some (.int .i64 d.gb) ∧ w'.cell? ⟨db, 3, none⟩ = some (.slice d.gao d.gn d.gc) ∧ w'.cell? ⟨db, 4, none⟩ = some (.int .i64 7) ∧ w'.cell? ⟨db, 5, none⟩ = some (.int .i64 0) ∧ w'.cell? ⟨db, 6, none⟩ = some (.slice (some ⟨d.eb, 0, none⟩) 2 2)) (by kernel_rfl) ?hS0q53 (fun hHeld => ?_)
        case hS0q53 => exact HS.out _ HB0.out
        refine wpAnyH_take (i := 0) (v := ?vvq54) rfl (by kernel_rfl) (by kernel_rfl) (by kernel_rfl) (fun _ _ _ h => h) (Or.inl ⟨by rfl, ?hyq54⟩) (by assumption) ?restq54
        case hyq54 => ((intro w hSw; (try dsimp only at hSw); go_simp) <;> with_reducible rfl)
        try simp only [sA, sC, Act.put, sD, sE, sF]
        refine wpAnyH_take (i := 1) (v := ?vvq55) rfl (by kernel_rfl) (by kernel_rfl) (by kernel_rfl) (fun _ _ _ h => h) (Or.inl ⟨by rfl, ?hyq55⟩) (by assumption) ?restq55
        case hyq55 => ((intro w hSw; (try dsimp only at hSw); go_simp) <;> with_reducible rfl)
        try simp only [sA, sB, sC, Act.put, sD, sE, sF]
        refine wpAnyH_take (i := 2) (v := ?vvq56) rfl (by kernel_rfl) (by kernel_rfl) (by kernel_rfl) (fun _ _ _ h => h) (Or.inl ⟨by rfl, ?hyq56⟩) (by assumption) ?restq56
        case hyq56 => ((intro w hSw; (try dsimp only at hSw); go_simp) <;> with_reducible rfl)
        try simp only [sA, sB, sC, Act.put, sD, sE, sF]
        refine wpAnyH_take (i := 3) (v := ?vvq57) rfl (by kernel_rfl) (by kernel_rfl) (by kernel_rfl) (fun _ _ _ h => h) (Or.inl ⟨by rfl, ?hyq57⟩) (by assumption) ?restq57
        case hyq57 => ((intro w hSw; (try dsimp only at hSw); go_simp) <;> with_reducible rfl)
        try simp only [sA, sB, sC, Act.put, sD, sE, sF]
        refine wpAnyH_take (i := 4) (v := ?vvq58) rfl (by kernel_rfl) (by kernel_rfl) (by kernel_rfl) (fun _ _ _ h => h) (Or.inl ⟨by rfl, ?hyq58⟩) (by assumption) ?restq58
        case hyq58 => ((intro w hSw; (try dsimp only at hSw); go_simp) <;> with_reducible rfl)
        try simp only [sA, sB, sC, Act.put, sD, sE, sF]
        refine wpAnyH_take (i := 5) (v := ?vvq59) rfl (by kernel_rfl) (by kernel_rfl) (by kernel_rfl) (fun _ _ _ h => h) (Or.inl ⟨by rfl, ?hyq59⟩) (by assumption) ?restq59
        case hyq59 => ((intro w hSw; (try dsimp only at hSw); go_simp) <;> with_reducible rfl)
        try simp only [sA, sB, sC, Act.put, sD, sE, sF]
        refine wpAnyH_take (i := 6) (v := ?vvq60) rfl (by kernel_rfl) (by kernel_rfl) (by kernel_rfl) (fun _ _ _ h => h) (Or.inl ⟨by rfl, ?hyq60⟩) (by assumption) ?restq60
        case hyq60 => ((intro w hSw; (try dsimp only at hSw); go_simp) <;> with_reducible rfl)
        try simp only [sA, sB, sC, Act.put, sD, sE, sF]
        refine wpAnyH_take (i := 7) (v := ?vvq61) rfl (by kernel_rfl) (by kernel_rfl) (by kernel_rfl) (fun _ _ _ h => h) (Or.inl ⟨by rfl, ?hyq61⟩) (by assumption) ?restq61
        case hyq61 => ((intro w hSw; (try dsimp only at hSw); go_simp) <;> with_reducible rfl)
        try simp only [sA, sB, sC, Act.put, sD, sE, sF]
        refine wpAnyH_take (i := 8) (v := ?vvq62) rfl (by kernel_rfl) (by kernel_rfl) (by kernel_rfl) (fun _ _ _ h => h) (Or.inl ⟨by rfl, ?hyq62⟩) (by assumption) ?restq62
        case hyq62 => ((intro w hSw; (try dsimp only at hSw); go_simp) <;> with_reducible rfl)
        try simp only [sA, sB, sC, Act.put, sD, sE, sF]
        refine wpAnyH_take (i := 9) (v := ?vvq63) rfl (by kernel_rfl) (by kernel_rfl) (by kernel_rfl) (fun _ _ _ h => h) (Or.inl ⟨by rfl, ?hyq63⟩) (by assumption) ?restq63
        case hyq63 => ((intro w hSw; (try dsimp only at hSw); go_simp) <;> with_reducible rfl)
        try simp only [sA, sB, sC, Act.put, sD, sE, sF]
        refine wpAnyH_ready (rs := [10, 14]) (by kernel_rfl) (by simp) ?_
        refine AllReadyH.cons rfl (fun K hK => ?_) (AllReadyH.cons rfl (fun K hK => ?_) AllReadyH.nil)
        · go_simp
          go_at_call 98
          refine (HRN.out _ HB0.out).mono ?_
          rintro e w2 ⟨hb, hhow⟩
          have HB2 := Lib.hid ((HB0.out).trans (hb.mono (HB0.out).size))
          have hp : i64ok r ∧ i64ok k ∧ l.length ≤ 6 ∧ tape1 l ∧ ∃ uo uc, e = .returned (.tuple #[.agg #[.int .i64 r, .bool true, .slice uo l.length uc, .int .i64 k], .nilIface]) ∧ IntsAt .i64 w2 uo l ∧ ∀ q o, uo = some ⟨q, o, none⟩ → w.heap.size + 0 ≤ q := by
            rcases hhow with ⟨c', h1, h2⟩ | ⟨r', h1, h2, h3⟩ | ⟨r', l', k', uo, uc, h1, h2, h3, h4, h5, h6, h7, h8⟩
            · rw [HQ.out] at h1
              cases h1
            · rw [HQ.out] at h1
              cases h1
            · rw [HQ.out] at h1
              cases h1
              exact ⟨h2, h3, h4, h5, uo, uc, h6, h7, fun q o e => by have := h8 q o e; have h9 : w.heap.size + 0 ≤ q := (by simpa using this); exact h9⟩
          obtain ⟨hr64, hk64, hl6, ht1, uo, uc, hp, hat, hlow⟩ := hp
          subst hp
          have HX2 := Lib.hid (And.intro hr64 (And.intro hk64 (And.intro hl6 (And.intro ht1 (And.intro hat hlow)))))
          clear hhow hr64 hk64 hl6 ht1 hat hlow
          refine hK.out _ _ ?hSq65 (fun hHeld => ?_)
          case hSq65 => exact HS.out _ HB2.out
          clear hK K
          try simp only [sA, sB, sC, Act.put, sD, sE, sF]
          refine wpAnyH_take (i := 11) (v := ?vvq66) rfl (by kernel_rfl) (by kernel_rfl) (by kernel_rfl) (fun _ _ _ h => h) (Or.inl ⟨by rfl, ?hyq66⟩) (by assumption) ?restq66
          case hyq66 => ((intro w hSw; (try dsimp only at hSw); go_simp) <;> with_reducible rfl)
          try simp only [sA, sB, sC, Act.put, sD, sE, sF]
          refine wpAnyH_take (i := 12) (v := ?vvq67) rfl (by kernel_rfl) (by kernel_rfl) (by kernel_rfl) (fun _ _ _ h => h) (Or.inl ⟨by rfl, ?hyq67⟩) (by assumption) ?restq67
          case hyq67 => ((intro w hSw; (try dsimp only at hSw); go_simp) <;> with_reducible rfl)
          try simp only [sA, sB, sC, Act.put, sD, sE, sF]
          refine wpAnyH_ready (rs := [13, 14]) (by kernel_rfl) (by simp) ?_
          refine AllReadyH.cons rfl (fun K hK => ?_) (AllReadyH.cons rfl (fun K hK => ?_) AllReadyH.nil)
          · go_simp
            go_at_call 97
            refine (must_rep r true uo l.length uc k _).mono ?_
            rintro e w4 ⟨rfl, hb⟩
            have HB4 := Lib.hid ((HB2.out).trans (hb.mono (HB2.out).size))
            have HC4 := Lib.hid hb
            clear hb
            refine hK.out _ _ ?hSq69 (fun hHeld => ?_)
            case hSq69 => exact HS.out _ HB4.out
            clear hK K
            try simp only [sA, sB, sC, Act.put, sD, sE, sF]
            refine wpAnyH_ready (rs := [14]) (by kernel_rfl) (by simp) ?_
            refine AllReadyH.cons rfl (fun K hK => ?_) AllReadyH.nil
            go_simp
            have HB45 := Lib.hid (show Below w.heap.size w (w4.alloc (.cells #[.int .i64 0, .bool false, .slice none 0 0, .int .i64 0] 66)) from HB4.out.alloc HB4.out.size _)
            refine hK.out _ _ ?hSq70 (fun hHeld => ?_)
            case hSq70 => exact HS.out _ HB45.out
            clear hK K
            try simp only [sA, sB, sC, Act.put, sD, sE, sF]
            refine wpAnyH_ready (rs := [15]) (by kernel_rfl) (by simp) ?_
            refine AllReadyH.cons rfl (fun K hK => ?_) AllReadyH.nil
            go_simp
            have HB5 := Lib.hid (show Below w.heap.size w (w4.alloc (.cells #[.int .i64 (r), .bool true, .slice uo l.length uc, .int .i64 k] 66)) from HB4.out.alloc HB4.out.size _)
            refine hK.out _ _ ?hSq71 (fun hHeld => ?_)
            case hSq71 => exact HS.out _ HB5.out
            clear hK K
            try simp only [sA, sB, sC, Act.put, sD, sE, sF]
            refine wpAnyH_done (by kernel_rfl) ?_ _
            go_wp2_with fail
            go_meet
            case rel => exact ⟨w4.heap.size, uo, uc, rfl, HX2.out.1, HX2.out.2.1, Lib.hid ⟨HX2.out.2.2.1, HX2.out.2.2.2.1, HB5.out, Blk.new _ _ _, (HX2.out.2.2.2.2.1.below (Nat.le_refl _) HC4.out).below (Nat.le_refl _) ((Below.refl _ _).alloc (Nat.le_refl _) _)⟩⟩
          · go_simp
            have HB3 := Lib.hid (show Below w.heap.size w (w2.alloc (.cells #[.int .i64 0, .bool false, .slice none 0 0, .int .i64 0] 66)) from HB2.out.alloc HB2.out.size _)
            have HZ := Lib.hid (show Blk (w2.alloc (.cells #[.int .i64 0, .bool false, .slice none 0 0, .int .i64 0] 66)) w2.heap.size _ _ from Blk.new _ _ _)
            refine hK.out _ _ ?hSq72 (fun hHeld => ?_)
            case hSq72 => exact HS.out _ HB3.out
            clear hK K
            try simp only [sA, sB, sC, Act.put, sD, sE, sF]
            refine wpAnyH_ready (rs := [13]) (by kernel_rfl) (by simp) ?_
            refine AllReadyH.cons rfl (fun K hK => ?_) AllReadyH.nil
            go_simp
            go_at_call 97
            refine (must_rep r true uo l.length uc k _).mono ?_
            rintro e w4 ⟨rfl, hb⟩
            have HB4 := Lib.hid ((HB3.out).trans (hb.mono (HB3.out).size))
            have HC4 := Lib.hid hb
            clear hb
            refine hK.out _ _ ?hSq73 (fun hHeld => ?_)
            case hSq73 => exact HS.out _ HB4.out
            clear hK K
            try simp only [sA, sB, sC, Act.put, sD, sE, sF]
            refine wpAnyH_ready (rs := [15]) (by kernel_rfl) (by simp) ?_
            refine AllReadyH.cons rfl (fun K hK => ?_) AllReadyH.nil
            have kz := HZ.out.below HC4.out
            have z0 := kz.cell 0
            have z1 := kz.cell 1
            have z2 := kz.cell 2
            have z3 := kz.cell 3
            have y0 := kz.froz 0
            have y1 := kz.froz 1
            have y2 := kz.froz 2
            have y3 := kz.froz 3
            simp only [List.getElem?_toArray, List.getElem?_cons_zero, List.getElem?_cons_succ] at z0 z1 z2 z3
            go_simp
            have HB5 := Lib.hid (show Below w.heap.size w ((((w4.setCell ⟨w2.heap.size, 0, none⟩ (.int .i64 (r))).setCell ⟨w2.heap.size, 1, none⟩ (.bool true)).setCell ⟨w2.heap.size, 2, none⟩ (.slice uo l.length uc)).setCell ⟨w2.heap.size, 3, none⟩ (.int .i64 k)) from ((((HB4.out.setCell (by exact HB2.out.size) _).setCell (by exact HB2.out.size) _).setCell (by exact HB2.out.size) _).setCell (by exact HB2.out.size) _))
            have HZ5 := Lib.hid kz
            clear kz z0 z1 z2 z3 y0 y1 y2 y3
            refine hK.out _ _ ?hSq74 (fun hHeld => ?_)
            case hSq74 => exact HS.out _ HB5.out
            clear hK K
            try simp only [sA, sB, sC, Act.put, sD, sE, sF]
            refine wpAnyH_done (by kernel_rfl) ?_ _
            go_wp2_with fail
            go_meet
            case rel => exact ⟨w2.heap.size, uo, uc, rfl, HX2.out.1, HX2.out.2.1, Lib.hid ⟨HX2.out.2.2.1, HX2.out.2.2.2.1, HB5.out, by simpa using (((HZ5.out.set 0 (.int .i64 (r))).set 1 (.bool true)).set 2 (.slice uo l.length uc)).set 3 (.int .i64 k), ints_low HX2.out.2.2.2.2.1 (Nat.le_refl _) (fun q hq _ => by rw [Below.heap_setCell _ ⟨w2.heap.size, 3, none⟩ _ q (by show q ≠ w2.heap.size; omega), Below.heap_setCell _ ⟨w2.heap.size, 2, none⟩ _ q (by show q ≠ w2.heap.size; omega), Below.heap_setCell _ ⟨w2.heap.size, 1, none⟩ _ q (by show q ≠ w2.heap.size; omega), Below.heap_setCell _ ⟨w2.heap.size, 0, none⟩ _ q (by show q ≠ w2.heap.size; omega), HC4.out.block q (by simp; omega), Below.heap_alloc w2 _ q hq])⟩⟩
        · go_simp
          have HB1 := Lib.hid (show Below w.heap.size w (w.alloc (.cells #[.int .i64 0, .bool false, .slice none 0 0, .int .i64 0] 66)).drew from ((Below.refl _ _).alloc (Nat.le_refl _) _).drew)
          have HZ := Lib.hid (show Blk (w.alloc (.cells #[.int .i64 0, .bool false, .slice none 0 0, .int .i64 0] 66)).drew w.heap.size _ _ from (Blk.new _ _ _).drew)
          refine hK.out _ _ ?hSq75 (fun hHeld => ?_)
          case hSq75 => exact HS.out _ HB1.out
          clear hK K
          try simp only [sA, sB, sC, Act.put, sD, sE, sF]
          refine wpAnyH_ready (rs := [10]) (by kernel_rfl) (by simp) ?_
          refine AllReadyH.cons rfl (fun K hK => ?_) AllReadyH.nil
          go_simp
          go_at_call 98
          refine (HRN.out _ HB1.out).mono ?_
          rintro e w2 ⟨hb, hhow⟩
          have HB2 := Lib.hid ((HB1.out).trans (hb.mono (HB1.out).size))
          have HC2 := Lib.hid hb
          have hp : i64ok r ∧ i64ok k ∧ l.length ≤ 6 ∧ tape1 l ∧ ∃ uo uc, e = .returned (.tuple #[.agg #[.int .i64 r, .bool true, .slice uo l.length uc, .int .i64 k], .nilIface]) ∧ IntsAt .i64 w2 uo l ∧ ∀ q o, uo = some ⟨q, o, none⟩ → w.heap.size + 1 ≤ q := by
            rcases hhow with ⟨c', h1, h2⟩ | ⟨r', h1, h2, h3⟩ | ⟨r', l', k', uo, uc, h1, h2, h3, h4, h5, h6, h7, h8⟩
            · rw [HQ.out] at h1
              cases h1
            · rw [HQ.out] at h1
              cases h1
            · rw [HQ.out] at h1
              cases h1
              exact ⟨h2, h3, h4, h5, uo, uc, h6, h7, fun q o e => by have := h8 q o e; have h9 : w.heap.size + 1 ≤ q := (by simpa using this); exact h9⟩
          obtain ⟨hr64, hk64, hl6, ht1, uo, uc, hp, hat, hlow⟩ := hp
          subst hp
          have HX2 := Lib.hid (And.intro hr64 (And.intro hk64 (And.intro hl6 (And.intro ht1 (And.intro hat hlow)))))
          clear hhow hr64 hk64 hl6 ht1 hat hlow
          refine hK.out _ _ ?hSq76 (fun hHeld => ?_)
          case hSq76 => exact HS.out _ HB2.out
          clear hK K
          try simp only [sA, sB, sC, Act.put, sD, sE, sF]
          refine wpAnyH_take (i := 11) (v := ?vvq77) rfl (by kernel_rfl) (by kernel_rfl) (by kernel_rfl) (fun _ _ _ h => h) (Or.inl ⟨by rfl, ?hyq77⟩) (by assumption) ?restq77
          case hyq77 => ((intro w hSw; (try dsimp only at hSw); go_simp) <;> with_reducible rfl)
          try simp only [sA, sB, sC, Act.put, sD, sE, sF]
          refine wpAnyH_take (i := 12) (v := ?vvq78) rfl (by kernel_rfl) (by kernel_rfl) (by kernel_rfl) (fun _ _ _ h => h) (Or.inl ⟨by rfl, ?hyq78⟩) (by assumption) ?restq78
          case hyq78 => ((intro w hSw; (try dsimp only at hSw); go_simp) <;> with_reducible rfl)
          try simp only [sA, sB, sC, Act.put, sD, sE, sF]
          refine wpAnyH_ready (rs := [13]) (by kernel_rfl) (by simp) ?_
          refine AllReadyH.cons rfl (fun K hK => ?_) AllReadyH.nil
          go_simp
          go_at_call 97
          refine (must_rep r true uo l.length uc k _).mono ?_
          rintro e w4 ⟨rfl, hb⟩
          have HB4 := Lib.hid ((HB2.out).trans (hb.mono (HB2.out).size))
          have HC4 := Lib.hid hb
          clear hb
          refine hK.out _ _ ?hSq79 (fun hHeld => ?_)
          case hSq79 => exact HS.out _ HB4.out
          clear hK K
          try simp only [sA, sB, sC, Act.put, sD, sE, sF]
          refine wpAnyH_ready (rs := [15]) (by kernel_rfl) (by simp) ?_
          refine AllReadyH.cons rfl (fun K hK => ?_) AllReadyH.nil
          have kz := (HZ.out.below HC2.out).below HC4.out
          have z0 := kz.cell 0
          have z1 := kz.cell 1
          have z2 := kz.cell 2
          have z3 := kz.cell 3
          have y0 := kz.froz 0
          have y1 := kz.froz 1
          have y2 := kz.froz 2
          have y3 := kz.froz 3
          simp only [List.getElem?_toArray, List.getElem?_cons_zero, List.getElem?_cons_succ] at z0 z1 z2 z3
          go_simp
          have HB5 := Lib.hid (show Below w.heap.size w ((((w4.setCell ⟨w.heap.size, 0, none⟩ (.int .i64 (r))).setCell ⟨w.heap.size, 1, none⟩ (.bool true)).setCell ⟨w.heap.size, 2, none⟩ (.slice uo l.length uc)).setCell ⟨w.heap.size, 3, none⟩ (.int .i64 k)) from ((((HB4.out.setCell (by exact Nat.le_refl _) _).setCell (by exact Nat.le_refl _) _).setCell (by exact Nat.le_refl _) _).setCell (by exact Nat.le_refl _) _))
          have HZ5 := Lib.hid kz
          clear kz z0 z1 z2 z3 y0 y1 y2 y3
          refine hK.out _ _ ?hSq80 (fun hHeld => ?_)
          case hSq80 => exact HS.out _ HB5.out
          clear hK K
          try simp only [sA, sB, sC, Act.put, sD, sE, sF]
          refine wpAnyH_done (by kernel_rfl) ?_ _
          go_wp2_with fail
          go_meet
          case rel => exact ⟨w.heap.size, uo, uc, rfl, HX2.out.1, HX2.out.2.1, Lib.hid ⟨HX2.out.2.2.1, HX2.out.2.2.2.1, HB5.out, by simpa using (((HZ5.out.set 0 (.int .i64 (r))).set 1 (.bool true)).set 2 (.slice uo l.length uc)).set 3 (.int .i64 k), ints_other (ints_other (ints_other (ints_other (HX2.out.2.2.2.2.1.below (Nat.le_refl _) HC4.out) (fun q o e => by have := HX2.out.2.2.2.2.2 q o e; omega)) (fun q o e => by have := HX2.out.2.2.2.2.2 q o e; omega)) (fun q o e => by have := HX2.out.2.2.2.2.2 q o e; omega)) (fun q o e => by have := HX2.out.2.2.2.2.2 q o e; omega)⟩⟩
      case rest =>
        obtain ⟨rb, uo, uc, rfl, hr64, hk64, HR⟩ := hcut
        have c0 : wc.cell? ⟨rb, 0, none⟩ = some (.int .i64 r) := HR.out.2.2.blk.cell 0
        have HI := Lib.hid (itoa_any r hr64 wc (HD.out.2.on HR.out.2.2.below))
        have hlr := Go.Lib.itoa_length_le r hr64.1 hr64.2
        have HK64 := Lib.hid hk64
        have hlk := Go.Lib.itoa_length_le k hk64.1 hk64.2
        have hti : ∀ x ∈ l, i64ok x := fun x hx => by have := HR.out.2.1 x hx; unfold i64ok; omega
        have hlt : (ttext l).length ≤ 200 := by
          have h1 := join_len (c := 46) (m := 21) (l.map Go.Lib.itoa) (text_len hti)
          have h2 := HR.out.1
          rw [List.length_map] at h1
          unfold ttext
          have h3 : (21 + 1) * l.length ≤ 22 * 6 := Nat.mul_le_mul (Nat.le_refl _) h2
          omega
        have HTI := Lib.hid hti
        clear hr64 hk64 hti
        go_wp2_with fail
        refine HI.out.mono ?_
        clear HI
        rintro e w6 ⟨rfl, hb6⟩
        have HR6 := Lib.hid (show RepAt w w6 rb r true uo l.length uc l k from ⟨HR.out.2.2.below.trans (hb6.mono HR.out.2.2.below.size), HR.out.2.2.blk.below hb6, HR.out.2.2.ints.below (Nat.le_refl _) hb6⟩)
        have c1 : w6.cell? ⟨rb, 1, none⟩ = some (.bool true) := HR6.out.blk.cell 1
        have c2 : w6.cell? ⟨rb, 2, none⟩ = some (.slice uo l.length uc) := HR6.out.blk.cell 2
        have c3 : w6.cell? ⟨rb, 3, none⟩ = some (.int .i64 k) := HR6.out.blk.cell 3
        have hrl : rb < w6.heap.size := HR6.out.blk.lt
        have HSR := Lib.hid (fun (w' : World) (hb : Below w6.heap.size w6 w') => (show (fun w' => w'.cell? ⟨rb, 2, none⟩ = some (.slice uo l.length uc) ∧ w'.cell? ⟨rb, 3, none⟩ = some (.int .i64 k)) w' from ⟨(hb.cell (by exact hrl)).trans c2, (hb.cell (by exact hrl)).trans c3⟩))
        have HB7 := Lib.hid (show Below w6.heap.size w6 w6.drew from (Below.refl _ _).drew)
        obtain ⟨tt, htt⟩ : ∃ tt, tt = ttext l := ⟨_, rfl⟩
        obtain ⟨ri, hri⟩ : ∃ ri, ri = Go.Lib.itoa r := ⟨_, rfl⟩
        obtain ⟨ki, hki⟩ : ∃ ki, ki = Go.Lib.itoa k := ⟨_, rfl⟩
        have HNM := Lib.hid (And.intro htt (And.intro hri hki))
        rw [← htt] at hlt
        rw [← hri] at hlr ⊢
        rw [← hki] at hlk
        have hj1 : ¬ 9223372036854775807 < 1 + tt.length := by omega
        have hj2 : ¬ 9223372036854775807 < 1 + tt.length + 1 := by omega
        have hj3 : ¬ 9223372036854775807 < 1 + tt.length + 1 + ki.length := by omega
        have hj4 : ¬ 9223372036854775807 < ri.length + (1 + tt.length + 1 + ki.length) := by omega
        clear hb6 htt hri hki
        go_wp2_with fail
        refine wp_region_held_drew (S := fun w' => w'.cell? ⟨rb, 2, none⟩ = some (.slice uo l.length uc) ∧ w'.cell? ⟨rb, 3, none⟩ = some (.int .i64 k)) (by kernel_rfl) ?hS0q81 (fun hHeld => ?_)
        case hS0q81 => exact HSR.out _ HB7.out
        refine wpAnyH_take (i := 0) (v := ?vvq82) rfl (by kernel_rfl) (by kernel_rfl) (by kernel_rfl) (fun _ _ _ h => h) (Or.inl ⟨by rfl, ?hyq82⟩) (by assumption) ?restq82
        case hyq82 => ((intro w hSw; (try dsimp only at hSw); go_simp) <;> with_reducible rfl)
        try simp only [sA, sC, Act.put, sD, sE, sF]
        refine wpAnyH_take (i := 1) (v := ?vvq83) rfl (by kernel_rfl) (by kernel_rfl) (by kernel_rfl) (fun _ _ _ h => h) (Or.inl ⟨by rfl, ?hyq83⟩) (by assumption) ?restq83
        case hyq83 => ((intro w hSw; (try dsimp only at hSw); go_simp) <;> with_reducible rfl)
        try simp only [sA, sB, sC, Act.put, sD, sE, sF]
        refine wpAnyH_take (i := 2) (v := ?vvq84) rfl (by kernel_rfl) (by kernel_rfl) (by kernel_rfl) (fun _ _ _ h => h) (Or.inl ⟨by rfl, ?hyq84⟩) (by assumption) ?restq84
        case hyq84 => ((intro w hSw; (try dsimp only at hSw); go_simp) <;> with_reducible rfl)
        try simp only [sA, sB, sC, Act.put, sD, sE, sF]
        refine wpAnyH_take (i := 6) (v := ?vvq85) rfl (by kernel_rfl) (by kernel_rfl) (by kernel_rfl) (fun _ _ _ h => h) (Or.inl ⟨by rfl, ?hyq85⟩) (by assumption) ?restq85
        case hyq85 => ((intro w hSw; (try dsimp only at hSw); go_simp) <;> with_reducible rfl)
        try simp only [sA, sB, sC, Act.put, sD, sE, sF]
        refine wpAnyH_take (i := 7) (v := ?vvq86) rfl (by kernel_rfl) (by kernel_rfl) (by kernel_rfl) (fun _ _ _ h => h) (Or.inl ⟨by rfl, ?hyq86⟩) (by assumption) ?restq86
        case hyq86 => ((intro w hSw; (try dsimp only at hSw); go_simp) <;> with_reducible rfl)
        try simp only [sA, sB, sC, Act.put, sD, sE, sF]
        refine wpAnyH_ready (rs := [3]) (by kernel_rfl) (by simp) ?_
        refine AllReadyH.cons rfl (fun K hK => ?_) AllReadyH.nil
        go_simp
        go_at_call 52
        refine (tape_text_any l uo l.length uc rfl (by have := HR.out.1; omega) HTI.out w6.drew (HD.out.2.on (HR6.out.below.trans (HB7.out.mono HR6.out.below.size))) (HR6.out.ints.below (Nat.le_refl _) HB7.out)).mono ?_
        rintro e w8 ⟨rfl, hb8⟩
        rw [← HNM.out.1]
        have HB8 := Lib.hid (HB7.out.trans (hb8.mono HB7.out.size))
        clear hb8
        refine hK.out _ _ ?hSq87 (fun hHeld => ?_)
        case hSq87 => exact HSR.out _ HB8.out
        clear hK K
        try simp only [sA, sB, sC, Act.put, sD, sE, sF]
        refine wpAnyH_take (i := 4) (v := ?vvq88) rfl (by kernel_rfl) (by kernel_rfl) (by kernel_rfl) (fun _ _ _ h => h) (Or.inl ⟨by rfl, ?hyq88⟩) (by assumption) ?restq88
        case hyq88 => ((intro w hSw; (try dsimp only at hSw); go_simp) <;> with_reducible rfl)
        try simp only [sA, sB, sC, Act.put, sD, sE, sF]
        refine wpAnyH_take (i := 5) (v := ?vvq89) rfl (by kernel_rfl) (by kernel_rfl) (by kernel_rfl) (fun _ _ _ h => h) (Or.inl ⟨by rfl, ?hyq89⟩) (by assumption) ?restq89
        case hyq89 => ((intro w hSw; (try dsimp only at hSw); go_simp) <;> with_reducible rfl)
        try simp only [sA, sB, sC, Act.put, sD, sE, sF]
        refine wpAnyH_ready (rs := [8]) (by kernel_rfl) (by simp) ?_
        refine AllReadyH.cons rfl (fun K hK => ?_) AllReadyH.nil
        go_simp
        go_at_call 48
        refine (itoa_any k HK64.out w8 (HD.out.2.on (HR6.out.below.trans (HB8.out.mono HR6.out.below.size)))).mono ?_
        rintro e w9 ⟨rfl, hb9⟩
        rw [← HNM.out.2.2]
        have HB9 := Lib.hid (HB8.out.trans (hb9.mono HB8.out.size))
        clear hb9
        refine hK.out _ _ ?hSq90 (fun hHeld => ?_)
        case hSq90 => exact HSR.out _ HB9.out
        clear hK K
        try simp only [sA, sB, sC, Act.put, sD, sE, sF]
        refine wpAnyH_take (i := 9) (v := ?vvq91) rfl (by kernel_rfl) (by kernel_rfl) (by kernel_rfl) (fun _ _ _ h => h) (Or.inl ⟨by rfl, ?hyq91⟩) (by assumption) ?restq91
        case hyq91 => ((intro w hSw; (try dsimp only at hSw); go_simp) <;> with_reducible rfl)
        try simp only [sA, sB, sC, Act.put, sD, sE, sF]
        refine wpAnyH_take (i := 10) (v := ?vvq92) rfl (by kernel_rfl) (by kernel_rfl) (by kernel_rfl) (fun _ _ _ h => h) (Or.inl ⟨by rfl, ?hyq92⟩) (by assumption) ?restq92
        case hyq92 => ((intro w hSw; (try dsimp only at hSw); go_simp) <;> with_reducible rfl)
        try simp only [sA, sB, sC, Act.put, sD, sE, sF]
        refine wpAnyH_take (i := 11) (v := ?vvq93) rfl (by kernel_rfl) (by kernel_rfl) (by kernel_rfl) (fun _ _ _ h => h) (Or.inl ⟨by rfl, ?hyq93⟩) (by assumption) ?restq93
        case hyq93 => ((intro w hSw; (try dsimp only at hSw); go_simp) <;> with_reducible rfl)
        try simp only [sA, sB, sC, Act.put, sD, sE, sF]
        refine wpAnyH_done (by kernel_rfl) ?_ _
        go_wp2_with fail
        go_ret
        have hf := HD.out.1.says (HR6.out.below.trans (HB9.out.mono HR6.out.below.size)) (s := ri ++ (32 :: (tt ++ 32 :: ki))) (r := runText (g, n) sd many) (by unfold runText; rw [HQ.out, HNM.out.1, HNM.out.2.1, HNM.out.2.2])
        have ht : (str (ri ++ (32 :: (tt ++ 32 :: ki))) : Value) = str (ri ++ (32 :: (tt ++ 32 :: ki))) := rfl
        simpa [ByteArray.mk_append_mk] using hf
end Go.Proofs.YtalbllijahiiiaaGreatDoor
