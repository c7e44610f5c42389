/- assayerref1.ReplayOf, MendOf. assayerref1.BadTape; what MostOf, DrawOf come to, plainly. assayerref1.MostOf, DrawOf. -/
import Derived.Test.YtalbllijahiiiaaGreatDoorDkBE
import Derived.Test.YtalbllijahiiiaaGreatDoorDkBA
import Derived.Deep.LoopGhost
section
namespace Go.Proofs.YtalbllijahiiiaaGreatDoor
open Go.RowKit Go.Mine Go.Mine.Desk

def PlayedAny (g : G) (l : List Int) (md : Bool) (w : World) (e : Ending) (w' : World) : Prop :=
  Below w.heap.size w w' ∧ ∃ vk vz vo vn vc ao c, e = .returned (.agg #[.bool vk, .int .i64 vz, .slice vo vn vc, .slice ao (plS l md g).t.length c, .int .i64 (plS l md g).pos, .int .i64 (plS l md g).err]) ∧ w'.ownsRow w.heap.size 3 1 (.slice ao (plS l md g).t.length c) (plS l md g).t.length ((plS l md g).t.map (.int .i64)) ∧ ValAt w' w.heap.size (.agg #[.bool vk, .int .i64 vz, .slice vo vn vc]) (plV l md g)
theorem Played_any (g : G) (v : Value) (hr : g.right) (l : List Int) (lo : Option Addr) (lc : Nat) (md : Bool) (hl : l.length ≤ 1200000) (w : World) (hat : IntsAt .i64 w lo l) (hv : GenAt w v g) :
    Calls Tryz.prog 30 #[v, playV 0 none 0 0 0 0, .slice lo l.length lc, .bool md] w (PlayedAny g l md w) := by
  cases g with
  | int a b =>
    obtain rfl : v = intG a b := hv
    obtain ⟨ha, hb, hab, hba⟩ := hr
    refine (Played_int a b ha hab hba l lo lc md 0 none 0 [] 0 w.heap.size (by simp) (by omega) hl w (Nat.le_refl _) hat (World.ownsRow_nil _ _ _ _)).mono ?_
    rintro e w' ⟨hb1, ao, c, rfl, hown⟩
    exact ⟨hb1, false, _, none, 0, 0, ao, c, rfl, hown, rfl⟩
  | many n a b =>
    obtain ⟨gb, rfl, hs⟩ := hv
    refine (Played_many n a b gb hr l lo lc md hl w hat hs).mono ?_
    rintro e w' ⟨hb1, ao, c, u, rfl, hown, hit⟩
    obtain ⟨uo, uc, rfl⟩ := owns_shape hit
    exact ⟨hb1, true, 0, uo, _, uc, ao, c, rfl, hown, ⟨_, rfl, hit⟩⟩
theorem plS_b (g : G) (hr : g.right) (l : List Int) (md : Bool) : (plS l md g).t.length ≤ 7 ∧ (plS l md g).pos ≤ 7 := by
  cases g with
  | int a b =>
    obtain ⟨ha, hb, hab, hba⟩ := hr
    have h := st1_b (l := l) (md := md) (a := a) (m := b - a) (by omega) (ps0, 0)
    simp only [ps0, List.length_nil] at h
    show (st1 l md a (b - a) (ps0, 0)).1.t.length ≤ 7 ∧ (st1 l md a (b - a) (ps0, 0)).1.pos ≤ 7
    simp only [ps0]
    omega
  | many n a b =>
    obtain ⟨hn0, hn5, ha, hb, hab, hba⟩ := hr
    have h1 := ch_b (l := l) (md := md) (m := n) hn0 ps0
    have h2 := stN_b (l := l) (md := md) (a := a) (m := b - a) (by omega) ((ch l md n ps0).1, 0) (ch l md n ps0).2.toNat
    have e1 : ps0.t.length = 0 := rfl
    have e2 : ps0.pos = 0 := rfl
    rw [e1, e2] at h1
    simp only at h2
    show (stN l md a (b - a) ((ch l md n ps0).1, 0) (ch l md n ps0).2.toNat).1.t.length ≤ 7 ∧ (stN l md a (b - a) ((ch l md n ps0).1, 0) (ch l md n ps0).2.toNat).1.pos ≤ 7
    omega
set_option maxRecDepth 100000 in
set_option maxHeartbeats 2000000 in
theorem MendOf_any (g : G) (v : Value) (hr : g.right) (l : List Int) (lo : Option Addr) (lc : Nat) (hl : l.length ≤ 1200000) (w : World) (hat : IntsAt .i64 w lo l) (hv : GenAt w v g) :
    Calls Tryz.prog 32 #[v, .slice lo l.length lc] w fun e w' => (∃ ao c, e = .returned (.slice ao (mend g l).length c) ∧ w'.ownsRow w.heap.size 3 1 (.slice ao (mend g l).length c) (mend g l).length ((mend g l).map (.int .i64))) ∧ Below w.heap.size w w' := by
  obtain ⟨gk, xa, gb, gao, gn, gc, hsh⟩ := hv.shape
  obtain ⟨w0, hw0⟩ : ∃ w0, w0 = w.alloc (.cells #[.int .i64 gk, .int .i64 xa, .int .i64 gb, .slice gao gn gc] 28) := ⟨_, rfl⟩
  have hb0 : Below w.heap.size w w0 := by rw [hw0]; exact (Below.refl _ _).alloc (Nat.le_refl _) _
  have HC := Lib.hid (Played_any g v hr l lo lc true hl w0 (ints_keep hat hb0) (hv.on hb0))
  have HW := Lib.hid hw0
  have HB := Lib.hid hb0
  have HM := Lib.hid (mend_pl g l).1
  simp only [playV] at HC
  rw [hsh, hw0] at HC
  rw [hsh]
  obtain ⟨s, hs⟩ : ∃ s, plS l true g = s := ⟨_, rfl⟩
  have HS := Lib.hid hs
  clear hw0 hb0 hat hv hsh hs
  go_enter Tryz.func32, Tryz.ntmps32
  go_wp2_with fail
  refine HC.out.mono ?_
  clear HC
  rintro e w1 ⟨hb1, vk, vz, vo, vn, vc, ao, c, rfl, hown, hval⟩
  rw [← HW.out] at hb1 hown
  have HB1 := Lib.hid (HB.out.trans (hb1.mono HB.out.size))
  have HO := Lib.hid (hown.mono HB.out.size)
  rw [HS.out] at HO HM ⊢
  have hfd : ∀ w : World, (Instr.field 79 (.agg #[.bool vk, .int .i64 vz, .slice vo vn vc, .slice ao s.t.length c, .int .i64 (s.pos : Int), .int .i64 s.err]) 1).run Tryz.prog w = .ok (.slice ao s.t.length c) w := fun _ => by kernel_rfl
  clear hb1 hown hval
  go_wp2_with fail
  go_ret
  exact ⟨⟨ao, c, by rw [← HM.out]; rfl, by rw [← HM.out]; exact HO.out⟩, HB1.out⟩
def ReplayOfPost (g : G) (l : List Int) (w : World) (e : Ending) (w' : World) : Prop :=
  Below w.heap.size w w' ∧ ((∃ x vk vz vo vn vc, replay g l = .ok x ∧ e = .returned (.tuple #[.agg #[.bool vk, .int .i64 vz, .slice vo vn vc], .int .i64 0]) ∧ ValAt w' w.heap.size (.agg #[.bool vk, .int .i64 vz, .slice vo vn vc]) x) ∨
    (∃ c, replay g l = .error c ∧ c ≠ 0 ∧ e = .returned (.tuple #[.agg #[.bool false, .int .i64 0, .slice none 0 0], .int .i64 c])))
set_option maxRecDepth 100000 in
set_option maxHeartbeats 4000000 in
theorem ReplayOf_any (g : G) (v : Value) (hr : g.right) (l : List Int) (lo : Option Addr) (lc : Nat) (hl : l.length ≤ 1200000) (w : World) (hat : IntsAt .i64 w lo l) (hv : GenAt w v g) :
    Calls Tryz.prog 16 #[v, .slice lo l.length lc] w (ReplayOfPost g l w) := by
  obtain ⟨gk, xa, gb, gao, gn, gc, hsh⟩ := hv.shape
  obtain ⟨w0, hw0⟩ : ∃ w0, w0 = (w.alloc (.cells #[.int .i64 gk, .int .i64 xa, .int .i64 gb, .slice gao gn gc] 28)).alloc (.cells #[.bool false, .int .i64 0, .slice none 0 0] 53) := ⟨_, rfl⟩
  have hb0 : Below w.heap.size w w0 := by rw [hw0]; exact ((Below.refl w.heap.size w).alloc (Nat.le_refl _) _).alloc (by simp) _
  obtain ⟨B, hB⟩ : ∃ B, w.heap.size = B := ⟨_, rfl⟩
  have kr : Blk w0 (B + 1) 53 #[.bool false, .int .i64 0, .slice none 0 0] := by rw [hw0, ← hB]; have := Blk.new (w.alloc (.cells #[.int .i64 gk, .int .i64 xa, .int .i64 gb, .slice gao gn gc] 28)) 53 #[.bool false, .int .i64 0, .slice none 0 0]; simpa using this
  have hs0 : w0.heap.size = B + 2 := by rw [hw0, ← hB]; simp
  have HC := Lib.hid (Played_any g v hr l lo lc false hl w0 (ints_keep hat hb0) (hv.on hb0))
  have HW := Lib.hid hw0
  have HB := Lib.hid (And.intro hb0 kr)
  have HR := Lib.hid (replay_pl g l)
  have hsb := (plS_b g hr l false).2
  simp only [playV] at HC
  rw [hsh, hw0] at HC
  rw [hsh]
  obtain ⟨s, hs⟩ : ∃ s, plS l false g = s := ⟨_, rfl⟩
  obtain ⟨x, hx⟩ : ∃ x, plV l false g = x := ⟨_, rfl⟩
  have HS := Lib.hid hs
  have HX := Lib.hid hx
  rw [hs] at hsb HR
  rw [hx] at HR
  obtain ⟨n, hn⟩ : ∃ n, l.length = n := ⟨_, rfl⟩
  have HN := Lib.hid hn
  have HS0 := Lib.hid hs0
  rw [hn] at HC hl ⊢
  have hBw : w.heap.size ≤ B := by omega
  clear hw0 hb0 hat hv hsh hs kr hx hn hs0
  go_enter Tryz.func16, Tryz.ntmps16
  go_wp2_with fail
  refine HC.out.mono ?_
  clear HC
  rintro e w1 ⟨hb1, vk, vz, vo, vn, vc, ao, c, rfl, hown, hval⟩
  rw [← HW.out] at hb1 hown hval
  rw [HS.out] at hown ⊢
  rw [HX.out] at hval
  obtain ⟨Q, hQ⟩ : ∃ Q, w1.heap.size = Q := ⟨_, rfl⟩
  obtain ⟨w2, hw2⟩ : ∃ w2, w2 = w1.alloc (.cells #[.bool vk, .int .i64 vz, .slice vo vn vc, .slice ao s.t.length c, .int .i64 (s.pos : Int), .int .i64 s.err] 79) := ⟨_, rfl⟩
  have hb2 : Below w1.heap.size w1 w2 := by rw [hw2]; exact (Below.refl _ _).alloc (Nat.le_refl _) _
  have kq : Blk w2 Q 79 #[.bool vk, .int .i64 vz, .slice vo vn vc, .slice ao s.t.length c, .int .i64 (s.pos : Int), .int .i64 s.err] := by rw [hw2, ← hQ]; exact Blk.new _ _ _
  have kr := (HB.out.2.below hb1).below hb2
  have hrQ : B + 1 < Q := by rw [← hQ]; exact (HB.out.2.below hb1).lt
  have hb02 := HB.out.1.trans ((hb1.trans (hb2.mono hb1.size)).mono HB.out.1.size)
  have H2 := Lib.hid (And.intro hb02 (And.intro kq (And.intro kr (show ValAt w2 (B + 2) (.agg #[.bool vk, .int .i64 vz, .slice vo vn vc]) x by rw [← HS0.out]; exact hval.below hb2))))
  have HW2 := Lib.hid hw2
  clear hb1 hown hval hw2 hb2 kq kr hb02
  go_upto_region 2 with fail
  rw [← HW2.out]
  have q0 : w2.cell? ⟨Q, 0, none⟩ = some (.bool vk) := H2.out.2.1.cell 0
  have q1 : w2.cell? ⟨Q, 1, none⟩ = some (.int .i64 vz) := H2.out.2.1.cell 1
  have q2 : w2.cell? ⟨Q, 2, none⟩ = some (.slice vo vn vc) := H2.out.2.1.cell 2
  have q3 : w2.cell? ⟨Q, 3, none⟩ = some (.slice ao s.t.length c) := H2.out.2.1.cell 3
  have q4 : w2.cell? ⟨Q, 4, none⟩ = some (.int .i64 (s.pos : Int)) := H2.out.2.1.cell 4
  have q5 : w2.cell? ⟨Q, 5, none⟩ = some (.int .i64 s.err) := H2.out.2.1.cell 5
  have qf0 : w2.frozen? ⟨Q, 0, none⟩ = false := H2.out.2.1.froz 0
  have qf1 : w2.frozen? ⟨Q, 1, none⟩ = false := H2.out.2.1.froz 1
  have qf2 : w2.frozen? ⟨Q, 2, none⟩ = false := H2.out.2.1.froz 2
  have qf3 : w2.frozen? ⟨Q, 3, none⟩ = false := H2.out.2.1.froz 3
  have qf4 : w2.frozen? ⟨Q, 4, none⟩ = false := H2.out.2.1.froz 4
  have qf5 : w2.frozen? ⟨Q, 5, none⟩ = false := H2.out.2.1.froz 5
  have r0 : w2.cell? ⟨B + 1, 0, none⟩ = some (.bool false) := H2.out.2.2.1.cell 0
  have r1 : w2.cell? ⟨B + 1, 1, none⟩ = some (.int .i64 0) := H2.out.2.2.1.cell 1
  have r2 : w2.cell? ⟨B + 1, 2, none⟩ = some (.slice none 0 0) := H2.out.2.2.1.cell 2
  have rf0 : w2.frozen? ⟨B + 1, 0, none⟩ = false := H2.out.2.2.1.froz 0
  have rf1 : w2.frozen? ⟨B + 1, 1, none⟩ = false := H2.out.2.2.1.froz 1
  have rf2 : w2.frozen? ⟨B + 1, 2, none⟩ = false := H2.out.2.2.1.froz 2
  obtain ⟨e0, he0⟩ : ∃ e0, s.err = e0 := ⟨_, rfl⟩
  rw [he0] at q5 ⊢
  have hne1 : B + 1 ≠ Q := by omega
  have hne2 : Q ≠ B + 1 := by omega
  by_cases hz : e0 = 0
  · subst hz
    have HE := Lib.hid he0
    clear he0
    by_cases hp : s.pos < n
    · have d1 : decide ((s.pos : Int) < (n : Int)) = true := decide_eq_true (by omega)
      have HX2 := Lib.hid (show replay g l = .error 3 by rw [HR.out, outOf_more _ HE.out (by rw [HN.out]; exact hp)])
      have HNE := Lib.hid (show (3 : Int) ≠ 0 by decide)
      go_wp2_with fail
      go_region
      all_goals
        (try go_wp2)
        refine bodyPost_ret (v := .tuple #[.agg #[.bool false, .int .i64 0, .slice none 0 0], .int .i64 3]) (by simp [results, Tryz.results16, go_sem, r0, r1, r2]) rfl ⟨?_, .inr ⟨3, HX2.out, HNE.out, rfl⟩⟩
        repeat (first | with_reducible exact H2.out.1 | with_reducible refine Below.drew ?_ | refine Below.setCell ?_ (by first | (show w.heap.size ≤ B + 1; omega) | (show w.heap.size ≤ Q; omega)) _)
    · have d1 : decide ((s.pos : Int) < (n : Int)) = false := decide_eq_false (by omega)
      have HX2 := Lib.hid (show replay g l = .ok x by rw [HR.out, outOf_ok _ HE.out (by rw [HN.out]; exact hp)])
      go_wp2_with fail
      refine bodyPost_ret (v := .tuple #[.agg #[.bool vk, .int .i64 vz, .slice vo vn vc], .int .i64 0]) (by simp [results, Tryz.results16, go_sem, r0, r1, r2]) rfl ⟨?_, .inl ⟨x, vk, vz, vo, vn, vc, HX2.out, rfl, ?_⟩⟩
      · iterate 3 (refine Below.setCell ?_ (by show w.heap.size ≤ B + 1; omega) _)
        exact H2.out.1
      · cases x with
        | num z => exact H2.out.2.2.2
        | list zs =>
          obtain ⟨u, h1, h2⟩ := H2.out.2.2.2
          refine ⟨u, h1, owns_same (h2.mono (by omega)) fun g hg => ?_⟩
          have hn2 : g ≠ B + 1 := by have := (h2.lt g hg).1; omega
          repeat (rw [Below.heap_setCell _ _ _ _ hn2])
  · have hb1 : (e0 == 0) = false := by rw [beq_eq_false_iff_ne]; exact hz
    have hb2 : (e0 != 0) = true := by rw [bne_iff_ne]; exact hz
    have HX2 := Lib.hid (show replay g l = .error e0 by rw [HR.out]; unfold outOf; rw [he0, if_neg hz])
    have HNE := Lib.hid hz
    clear he0
    go_wp2_with fail
    go_region
    all_goals
      (try go_wp2)
      refine bodyPost_ret (v := .tuple #[.agg #[.bool false, .int .i64 0, .slice none 0 0], .int .i64 e0]) (by simp [results, Tryz.results16, go_sem, r0, r1, r2]) rfl ⟨?_, .inr ⟨e0, HX2.out, HNE.out, rfl⟩⟩
      repeat (first | with_reducible exact H2.out.1 | with_reducible refine Below.drew ?_ | refine Below.setCell ?_ (by first | (show w.heap.size ≤ B + 1; omega) | (show w.heap.size ≤ Q; omega)) _)
end Go.Proofs.YtalbllijahiiiaaGreatDoor
end

section
namespace Go.Proofs.YtalbllijahiiiaaGreatDoor
open Go.RowKit Go.Mine Go.Mine.Desk

set_option maxRecDepth 100000 in
set_option maxHeartbeats 4000000 in
theorem BadTape_any (g : G) (v : Value) (hr : g.right) (n : Int) (eb : Nat) (l : List Int) (lo : Option Addr) (lc : Nat) (hl : l.length ≤ 1200000) (w : World) (hat : IntsAt .i64 w lo l) (hv : GenAt w v g) (hx : ExprAt w eb n) :
    Calls Tryz.prog 37 #[v, wholeE eb, .slice lo l.length lc] w fun e w' => e = .returned (.bool (bad g n l)) ∧ Below w.heap.size w w' := by
  obtain ⟨gk, xa, gb, gao, gn, gc, hsh⟩ := hv.shape
  obtain ⟨w0, hw0⟩ : ∃ w0, w0 = (w.alloc (.cells #[.int .i64 gk, .int .i64 xa, .int .i64 gb, .slice gao gn gc] 28)).alloc (.cells #[.int .i64 7, .int .i64 0, .slice (some ⟨eb, 0, none⟩) 2 2] 41) := ⟨_, rfl⟩
  have hb0 : Below w.heap.size w w0 := by rw [hw0]; exact ((Below.refl w.heap.size w).alloc (Nat.le_refl _) _).alloc (by simp) _
  obtain ⟨B, hB⟩ : ∃ B, w.heap.size = B := ⟨_, rfl⟩
  have kx : Blk w0 (B + 1) 41 #[.int .i64 7, .int .i64 0, .slice (some ⟨eb, 0, none⟩) 2 2] := by rw [hw0, ← hB]; have := Blk.new (w.alloc (.cells #[.int .i64 gk, .int .i64 xa, .int .i64 gb, .slice gao gn gc] 28)) 41 #[.int .i64 7, .int .i64 0, .slice (some ⟨eb, 0, none⟩) 2 2]; simpa using this
  have HC := Lib.hid (ReplayOf_any g v hr l lo lc hl w0 (ints_keep hat hb0) (hv.on hb0))
  have HW := Lib.hid hw0
  have HB := Lib.hid (And.intro hb0 (And.intro kx ((show Blk w eb _ _ from hx).below hb0)))
  have HR := Lib.hid hr
  rw [hsh, hw0] at HC
  rw [hsh]
  clear hw0 hb0 hat hv hsh kx hx hr
  simp only [wholeE]
  go_enter Tryz.func37, Tryz.ntmps37
  go_wp2_with fail
  refine HC.out.mono ?_
  clear HC
  rintro e w1 ⟨hb1, hhow⟩
  rw [← HW.out] at hb1 hhow
  obtain ⟨Q, hQ⟩ : ∃ Q, w1.heap.size = Q := ⟨_, rfl⟩
  rcases hhow with ⟨x, vk, vz, vo, vn, vc, hx, rfl, hval⟩ | ⟨c, hx, hc, rfl⟩
  · obtain ⟨w2, hw2⟩ : ∃ w2, w2 = w1.alloc (.cells #[.bool vk, .int .i64 vz, .slice vo vn vc] 53) := ⟨_, rfl⟩
    have hb2 : Below w1.heap.size w1 w2 := by rw [hw2]; exact (Below.refl _ _).alloc (Nat.le_refl _) _
    have kq : Blk w2 Q 53 #[.bool vk, .int .i64 vz, .slice vo vn vc] := by rw [hw2, ← hQ]; exact Blk.new _ _ _
    have hb12 := hb1.trans (hb2.mono hb1.size)
    have kx2 := HB.out.2.1.below hb12
    have ke2 := HB.out.2.2.below hb12
    have HBD := Lib.hid (Bad_any n eb _ x _ w2 ke2 (hval.below hb2) (replay_small HR.out hx))
    simp only [wholeE] at HBD
    have HV := Lib.hid (show bad g n l = decide (n ≤ total x) by unfold bad; rw [hx])
    have HK := Lib.hid (HB.out.1.trans (hb12.mono HB.out.1.size))
    have HW2 := Lib.hid hw2
    have q0 : w2.cell? ⟨Q, 0, none⟩ = some (.bool vk) := kq.cell 0
    have q1 : w2.cell? ⟨Q, 1, none⟩ = some (.int .i64 vz) := kq.cell 1
    have q2 : w2.cell? ⟨Q, 2, none⟩ = some (.slice vo vn vc) := kq.cell 2
    have x0 : w2.cell? ⟨B + 1, 0, none⟩ = some (.int .i64 7) := kx2.cell 0
    have x1 : w2.cell? ⟨B + 1, 1, none⟩ = some (.int .i64 0) := kx2.cell 1
    have x2 : w2.cell? ⟨B + 1, 2, none⟩ = some (.slice (some ⟨eb, 0, none⟩) 2 2) := kx2.cell 2
    clear hb1 hw2 hb2 kq hb12 kx2 ke2 hval hx
    go_upto_region 2 with fail
    rw [← HW2.out]
    go_wp2_with fail
    refine HBD.out.mono ?_
    clear HBD
    rintro e w3 ⟨rfl, hb3⟩
    have H3 := Lib.hid (HK.out.trans (hb3.mono HK.out.size))
    clear hb3
    go_wp2_with fail
    go_ret
    exact ⟨by rw [HV.out]; rfl, H3.out⟩
  · have HV := Lib.hid (show bad g n l = false by unfold bad; rw [hx])
    have hb1' : (c == 0) = false := by rw [beq_eq_false_iff_ne]; exact hc
    have hc2 : ¬ c = 0 := hc
    have H1 := Lib.hid ((HB.out.1.trans (hb1.mono HB.out.1.size)).alloc (Nat.le_trans HB.out.1.size hb1.size) (.cells #[.bool false, .int .i64 0, .slice none 0 0] 53))
    clear hb1 hx hc
    go_wp2_with fail
    go_ret
    exact ⟨by rw [HV.out]; rfl, H1.out⟩

/-! Plainly. -/
def mostF (g : G) (l : List Int) : Int := if (mend g (l ++ [1001])).length ≤ l.length then -1 else (mend g (l ++ [1001])).getD l.length 0
def nextN (s : Seed) : Nat → Seed
  | 0 => s
  | k + 1 => (nextN s k).next
def boundAt : G → Nat → Int
  | .int a b, _ => b - a
  | .many n _ _, 0 => n
  | .many _ a b, _ + 1 => b - a
theorem nextN_next (s : Seed) : ∀ k, nextN s.next k = nextN s (k + 1)
  | 0 => rfl
  | k + 1 => by rw [nextN, nextN_next s k]; rfl
theorem drawMany_eq (m : Int) (s : Seed) : ∀ k, drawMany m k s = ((List.range k).map (fun i => (nextN s i).below (m + 1)), nextN s k)
  | 0 => rfl
  | k + 1 => by
    rw [drawMany, drawMany_eq m s k, List.range_succ, List.map_append]
    rfl
theorem draw_many_eq (n a b : Int) (s : Seed) : draw (.many n a b) s = s.below (n + 1) :: (List.range (s.below (n + 1)).toNat).map (fun i => (nextN s (i + 1)).below (b - a + 1)) := by
  rw [draw, drawMany_eq]
  simp only [nextN_next]
theorem bound_b {g : G} (hr : g.right) (i : Nat) : 0 ≤ boundAt g i ∧ boundAt g i ≤ 1000 := by
  cases g with
  | int a b =>
    obtain ⟨_, _, h1, h2⟩ := hr
    simp only [boundAt]
    omega
  | many n a b =>
    obtain ⟨h0, h5, _, _, h1, h2⟩ := hr
    cases i <;> simp only [boundAt] <;> omega
theorem draw_len {g : G} (hr : g.right) (s : Seed) : (draw g s).length ≤ 6 := by
  cases g with
  | int a b => simp [draw]
  | many n a b =>
    obtain ⟨h0, h5, _, _, h1, h2⟩ := hr
    have := Seed.below_b s (n := n + 1) (by omega)
    rw [draw_many_eq]
    simp
    omega
theorem draw_at {g : G} (s : Seed) {i : Nat} (hi : i < (draw g s).length) : (draw g s)[i]? = some ((nextN s i).below (boundAt g i + 1)) := by
  cases g with
  | int a b =>
    simp only [draw, List.length_cons, List.length_nil] at hi
    obtain rfl : i = 0 := by omega
    rfl
  | many n a b =>
    rw [draw_many_eq] at hi ⊢
    cases i with
    | zero => rfl
    | succ i =>
      simp only [List.length_cons, List.length_map, List.length_range] at hi
      have hi' : i < (s.below (n + 1)).toNat := by omega
      simp [hi', boundAt]
theorem most_at {g : G} (hr : g.right) (s : Seed) {i : Nat} (hi : i ≤ (draw g s).length) : mostF g ((draw g s).take i) = if i < (draw g s).length then boundAt g i else -1 := by
  unfold mostF
  have hl : ((draw g s).take i).length = i := by rw [List.length_take]; omega
  rw [hl]
  cases g with
  | int a b =>
    obtain ⟨_, _, h1, h2⟩ := hr
    have hd : (draw (.int a b) s).length = 1 := rfl
    rw [hd] at hi ⊢
    have hi2 : i = 0 ∨ i = 1 := by omega
    rcases hi2 with rfl | rfl
    · simp [mend, boundAt, clamp]
      omega
    · simp [mend]
  | many n a b =>
    obtain ⟨h0, h5, _, _, h1, h2⟩ := hr
    have hb := Seed.below_b s (n := n + 1) (by omega)
    rw [draw_many_eq] at hi hl ⊢
    obtain ⟨k, hk⟩ : ∃ k : Nat, s.below (n + 1) = k := ⟨(s.below (n + 1)).toNat, by omega⟩
    rw [hk] at hi hb hl ⊢
    simp only [Int.toNat_natCast, List.length_cons, List.length_map, List.length_range] at hi hl ⊢
    cases i with
    | zero =>
      rw [show (if 0 < k + 1 then boundAt (.many n a b) 0 else -1) = n from if_pos (by omega), List.take_zero, List.nil_append]
      have hm : mend (.many n a b) [1001] = clamp n 1001 :: (List.range (clamp n 1001).toNat).map fun i => clamp (b - a) (([1001] : List Int).getD (i + 1) 0) := rfl
      rw [hm, if_neg (by simp)]
      show clamp n 1001 = n
      unfold clamp
      omega
    | succ i =>
      rw [List.take_succ_cons] at hl ⊢
      obtain ⟨ys, hys⟩ : ∃ ys, ((List.range k).map (fun i => (nextN s (i + 1)).below (b - a + 1))).take i = ys := ⟨_, rfl⟩
      rw [hys] at hl ⊢
      have hyl : ys.length = i := by simpa using hl
      have hm : mend (.many n a b) ((k : Int) :: ys ++ [1001]) = clamp n k :: (List.range (clamp n k).toNat).map fun j => clamp (b - a) (((k : Int) :: ys ++ [1001]).getD (j + 1) 0) := rfl
      have hck : clamp n k = k := by unfold clamp; omega
      rw [hm, hck]
      simp only [Int.toNat_natCast, List.length_cons, List.length_map, List.length_range]
      by_cases hik : i < k
      · rw [if_neg (by omega), if_pos (by omega)]
        have e : (((k : Int) :: ys ++ [1001]).getD (i + 1) 0) = 1001 := by
          rw [List.cons_append, List.getD_cons_succ, ← hyl]
          simp
        have e2 : ((k : Int) :: (List.range k).map fun j => clamp (b - a) (((k : Int) :: ys ++ [1001]).getD (j + 1) 0)).getD (i + 1) 0 = clamp (b - a) (((k : Int) :: ys ++ [1001]).getD (i + 1) 0) := by
          rw [List.getD_cons_succ]
          simp [hik]
        rw [e2, e]
        show clamp (b - a) 1001 = b - a
        unfold clamp
        omega
      · rw [if_pos (by omega), if_neg (by omega)]
theorem most_b {g : G} (hr : g.right) (l : List Int) : mostF g l ≤ 1000 ∧ -1 ≤ mostF g l := by
  unfold mostF
  split
  · omega
  · rename_i h
    have h2 : ∀ x ∈ mend g (l ++ [1001]), 0 ≤ x ∧ x ≤ 1000 := fun x hx => by
      cases g with
      | int a b =>
        obtain ⟨_, _, h1, h2⟩ := hr
        simp only [mend, List.mem_singleton] at hx
        rw [hx]
        have := clamp_in (m := b - a) ((l ++ [1001]).getD 0 0) (by omega)
        omega
      | many n a b =>
        obtain ⟨h0, h5, _, _, h1, h2⟩ := hr
        simp only [mend, List.mem_cons, List.mem_map] at hx
        rcases hx with rfl | ⟨j, _, rfl⟩
        · have := clamp_in (m := n) ((l ++ [1001]).getD 0 0) (by omega)
          omega
        · have := clamp_in (m := b - a) ((l ++ [1001]).getD (j + 1) 0) (by omega)
          omega
    have h3 : (mend g (l ++ [1001])).getD l.length 0 ∈ mend g (l ++ [1001]) := by
      have hlt : l.length < (mend g (l ++ [1001])).length := by omega
      rw [show (mend g (l ++ [1001])).getD l.length 0 = (mend g (l ++ [1001]))[l.length] by simp [List.getD, hlt]]
      exact List.getElem_mem hlt
    have := h2 _ h3
    omega
end Go.Proofs.YtalbllijahiiiaaGreatDoor
end

section
namespace Go.Proofs.YtalbllijahiiiaaGreatDoor
open Go.RowKit Go.Mine Go.Mine.Desk

theorem cut_all (ao : Option Addr) (n c : Nat) (h : n ≤ c) (ho : ∀ ad, ao = some ad → ∃ b, ad = ⟨b, 0, none⟩) (w : World) : (Instr.slice 48 (.slice ao n c) none (some (.int .i64 (n : Int))) none).run Tryz.prog w = .ok (.slice ao n c) w := by
  have h := run_slice_h (P := Tryz.prog) (w := w) 48 ao n c (by kernel_rfl) .i64 (n : Int) (by omega) (by omega)
  rw [h]
  have he : Tryz.prog.elem 48 = 3 := by kernel_rfl
  rw [he]
  obtain ⟨i0, hi0, hz0, hz1, hz2⟩ := info_parts infoI3d
  cases ao with
  | none => simp [sizeOf, typeInfo, hi0, Result.andThen, sliced, Addr.add, go_sem]
  | some a =>
    obtain ⟨b, rfl⟩ := ho a rfl
    simp [sizeOf, typeInfo, hi0, Result.andThen, sliced, Addr.add, go_sem]
theorem owns_zero {w : World} {base : Nat} {e : TypeId} {size : Nat} {ao : Option Addr} {n c : Nat} {xs : List Value} (h : w.ownsRow base e size (.slice ao n c) n xs) : ∀ ad, ao = some ad → ∃ b, ad = ⟨b, 0, none⟩ := fun ad had => by
  subst had
  rcases h.2 with ⟨h1, _⟩ | ⟨g, cap, cur, h1, _⟩
  · cases h1
  · simp only [Value.slice.injEq] at h1
    exact ⟨g, by simpa using h1.1⟩
set_option maxRecDepth 100000 in
set_option maxHeartbeats 2000000 in
theorem MostOf_any (g : G) (v : Value) (hr : g.right) (l : List Int) (lo : Option Addr) (lc B0 : Nat) (hl : l.length ≤ 100) (w : World) (hown : w.ownsRow B0 3 1 (.slice lo l.length lc) l.length (l.map (.int .i64))) (hv : GenAt w v g) :
    Calls Tryz.prog 71 #[v, .slice lo l.length lc, .int .i64 (l.length : Int)] w fun e w' => e = .returned (.int .i64 (mostF g l)) ∧ Below w.heap.size w w' := by
  obtain ⟨i1, hj1, hy0, hy1, hy2⟩ := info_parts infoI3d
  obtain ⟨gk, xa, gb, gao, gn, gc, hsh⟩ := hv.shape
  have hcap := own_cap2 hown
  have hcut := cut_all lo l.length lc hcap (owns_zero hown)
  obtain ⟨n, hn⟩ : ∃ n, l.length = n := ⟨_, rfl⟩
  obtain ⟨w0, hw0⟩ : ∃ w0, w0 = w.alloc (.cells #[.int .i64 gk, .int .i64 xa, .int .i64 gb, .slice gao gn gc] 28) := ⟨_, rfl⟩
  have hb0 : Below w.heap.size w w0 := by rw [hw0]; exact (Below.refl _ _).alloc (Nat.le_refl _) _
  obtain ⟨B, hB⟩ : ∃ B, w.heap.size = B := ⟨_, rfl⟩
  have kg : Blk w0 B 28 #[.int .i64 gk, .int .i64 xa, .int .i64 gb, .slice gao gn gc] := by rw [hw0, ← hB]; exact Blk.new _ _ _
  have hs0 : w0.heap.size = B + 1 := by rw [hw0, ← hB]; simp
  have HI := Lib.hid (IntsAt.of_owns (owns_below hown hb0))
  have HNO := Lib.hid (show lo = none → n = 0 from fun h => by have := owns_none hown h; omega)
  have HW := Lib.hid hw0
  have HB := Lib.hid (And.intro hb0 (And.intro kg (hv.on hb0)))
  have HN := Lib.hid hn
  have HLM := Lib.hid (show (l.map (Value.int .i64)).length = n by simpa using hn)
  rw [hn] at hcut hcap hl ⊢
  have HSH := Lib.hid hsh
  have HMB := Lib.hid (most_b hr l)
  rw [hsh]
  have HMD := Lib.hid (fun (lo' : Option Addr) (lc' : Nat) (W : World) h1 h2 => MendOf_any g v hr (l ++ [1001]) lo' lc' (by rw [List.length_append]; simp; omega) W h1 h2)
  rw [hsh] at HMD
  have HLN := Lib.hid (show (l ++ [(1001 : Int)]).length = n + 1 by rw [List.length_append, hn]; rfl)
  rw [HLN.out] at HMD
  clear hw0 hb0 kg hv hsh hown hn
  go_enter Tryz.func71, Tryz.ntmps71
  go_upto_region 1 with fail
  rw [← HW.out]
  go_wp2_with (at_builtin; refine wpList_append_any _ rfl _ _ 48 rfl (B + 1) 3 i1 (.int .i64 0) 1 8 Tryz.underlying48 hj1 hy0 hy1 hy2 rfl (by decide) (B + 1) 0 0 [] rfl (owns_empty (Nat.le_refl _) (heap_alloc_at _ _ hs0.symm)) lo n lc (l.map (Value.int .i64)) rfl (by simp [HLM.out]) HNO.out (ints_news (HI.out.below (Nat.le_refl _) ((Below.refl _ _).alloc (Nat.le_refl _) _))) (ints1 _ _) (by unfold maxLen; omega) (by omega) (by simp; omega) _ rfl ?_)
  intro gq cap w7 hown hgr hg7 hlt
  have hb7 : Below w0.heap.size w0 w7 := ((Below.refl w0.heap.size w0).alloc (Nat.le_refl _) (.cells #[] 3)).grown hgr (by simp) (fun q hq => by cases hq; omega)
  have H7 := Lib.hid (And.intro hown hb7)
  clear hown hgr hg7 hlt hb7
  try simp only [Nat.zero_add, List.nil_append] at H7
  have hz7 : B + 1 ≤ w7.heap.size := by have := H7.out.2.size; omega
  go_wp2_with (at_builtin; refine wpList_push2 _ rfl _ _ 48 rfl (B + 1) 3 i1 (.int .i64 0) 1 8 Tryz.underlying48 hj1 hy0 hy1 hy2 rfl (by decide) _ _ _ rfl (H7.out.1.alloc _) ⟨w7.heap.size, 0, none⟩ 1 [.int .i64 1001] rfl rfl (World.news_of_block (cs := #[.int .i64 1001]) (t := 3) (fr := (0, 0)) (heap_alloc_at _ _ rfl)) (one1 _ _) (by unfold maxLen; omega) (by omega) (by simp; omega) ?_)
  intro g2 cap2 w8 hown8 hgr8 hat8
  have hb8 : Below w0.heap.size w0 w8 := (H7.out.2.alloc H7.out.2.size (.cells #[.int .i64 1001] 3)).grown hgr8 (Nat.le_trans H7.out.2.size (by simp)) (fun q hq => by cases hq; rw [hs0]; exact (H7.out.1.lt gq rfl).1)
  have hm8 : w8.ownsRow (B + 1) 3 1 (.slice (some ⟨g2, 0, none⟩) (l ++ [(1001 : Int)]).length cap2) (l ++ [(1001 : Int)]).length ((l ++ [(1001 : Int)]).map (.int .i64)) := by
    rw [HLN.out, List.map_append]
    exact hown8
  have HC := Lib.hid (HMD.out (some ⟨g2, 0, none⟩) cap2 w8 (IntsAt.of_owns hm8) (by rw [← HSH.out]; exact HB.out.2.2.on hb8))
  have H8 := Lib.hid (HB.out.1.trans (hb8.mono HB.out.1.size))
  have k8 := HB.out.2.1.below hb8
  have c0 : w8.cell? ⟨B, 0, none⟩ = some (.int .i64 gk) := k8.cell 0
  have c1 : w8.cell? ⟨B, 1, none⟩ = some (.int .i64 xa) := k8.cell 1
  have c2 : w8.cell? ⟨B, 2, none⟩ = some (.int .i64 gb) := k8.cell 2
  have c3 : w8.cell? ⟨B, 3, none⟩ = some (.slice gao gn gc) := k8.cell 3
  clear hown8 hgr8 hat8 hb8 hm8 k8
  go_wp2_with fail
  refine HC.out.mono ?_
  clear HC
  rintro e w9 ⟨⟨tO, tc, rfl, hown9⟩, hb9⟩
  have H9 := Lib.hid (H8.out.trans (hb9.mono H8.out.size))
  have HO9 := Lib.hid hown9
  obtain ⟨t, ht⟩ : ∃ t, mend g (l ++ [1001]) = t := ⟨_, rfl⟩
  have HT := Lib.hid ht
  rw [ht] at HO9 ⊢
  obtain ⟨tn, htn⟩ : ∃ tn, t.length = tn := ⟨_, rfl⟩
  clear hb9 hown9 ht
  by_cases hle : tn ≤ n
  · have HR := Lib.hid (show mostF g l = -1 by unfold mostF; rw [HT.out, HN.out, htn, if_pos hle])
    have d1 : decide ((tn : Int) ≤ (n : Int)) = true := decide_eq_true (by omega)
    rw [htn]
    clear htn
    go_wp2_with fail
    go_ret
    exact ⟨by rw [HR.out]; rfl, H9.out⟩
  · have HR := Lib.hid (show mostF g l = t.getD n 0 by unfold mostF; rw [HT.out, HN.out, htn, if_neg hle])
    have d1 : decide ((tn : Int) ≤ (n : Int)) = false := decide_eq_false (by omega)
    obtain ⟨b, o, htO, hc⟩ := IntsAt.of_owns HO9.out n (by rw [htn]; omega)
    obtain rfl : tO = some ⟨b, o, none⟩ := htO
    have hi0 : (0 : Int) ≤ (n : Int) := by omega
    have hi1 : (n : Int) < (tn : Int) := by omega
    rw [htn]
    clear htn
    go_wp2_with fail
    go_ret
    exact ⟨by rw [HR.out]; rfl, H9.out⟩
end Go.Proofs.YtalbllijahiiiaaGreatDoor
end
