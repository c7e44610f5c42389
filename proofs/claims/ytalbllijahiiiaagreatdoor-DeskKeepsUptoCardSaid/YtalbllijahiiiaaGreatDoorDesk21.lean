/- shrink.fails. -/
import Derived.Test.YtalbllijahiiiaaGreatDoorDesk20
namespace Go.Proofs.YtalbllijahiiiaaGreatDoor
open Go.RowKit Go.Mine Go.Mine.Desk

theorem playN_small {a m : Int} (ha : near a) (hm : m ≤ 1000) : ∀ {k : Nat} {r zs r' : List Int}, playN a m k r = .ok (zs, r') → zs.length = k ∧ ∀ z ∈ zs, small z
  | 0, r, zs, r', h => by simp only [playN, Except.ok.injEq, Prod.mk.injEq] at h; obtain ⟨rfl, rfl⟩ := h; exact ⟨rfl, by simp⟩
  | k + 1, [], zs, r', h => by simp [playN] at h
  | k + 1, x :: r, zs, r', h => by
    rw [playN] at h
    split at h
    · cases h
    · rename_i hx
      cases hp : playN a m k r with
      | error e => rw [hp] at h; cases h
      | ok q =>
        obtain ⟨ys, r2⟩ := q
        rw [hp] at h
        simp only [Except.ok.injEq, Prod.mk.injEq] at h
        obtain ⟨rfl, rfl⟩ := h
        obtain ⟨h1, h2⟩ := playN_small ha hm hp
        refine ⟨by rw [List.length_cons, h1], fun z hz => ?_⟩
        rcases List.mem_cons.1 hz with rfl | hz
        · unfold near at ha; unfold small; omega
        · exact h2 z hz
theorem replay_small {g : G} (hr : g.right) {ts : List Int} {x : V} (h : replay g ts = .ok x) : VOk x := by
  cases g with
  | int a b =>
    obtain ⟨ha, hb, hab, hba⟩ := hr
    rw [replay] at h
    cases hp : playN a (b - a) 1 ts with
    | error e => rw [hp] at h; cases h
    | ok q =>
      obtain ⟨zs, r⟩ := q
      rw [hp] at h
      simp only at h
      split at h
      · cases h
        obtain ⟨h1, h2⟩ := playN_small ha hba hp
        refine h2 _ ?_
        cases zs with
        | nil => cases h1
        | cons y r => simp
      · cases h
  | many n a b =>
    obtain ⟨hn0, hn5, ha, hb, hab, hba⟩ := hr
    cases ts with
    | nil => cases h
    | cons k l =>
      rw [replay] at h
      split at h
      · cases h
      · cases hp : playN a (b - a) k.toNat l with
        | error e => rw [hp] at h; cases h
        | ok q =>
          obtain ⟨zs, r⟩ := q
          rw [hp] at h
          simp only at h
          split at h
          · cases h
            obtain ⟨h1, h2⟩ := playN_small ha hba hp
            exact ⟨by omega, h2⟩
          · cases h
/-- How it ends. -/
def SFPost (g : G) (n : Int) (ts : List Int) (w : World) (e : Ending) (w' : World) : Prop :=
  Below w.heap.size w w' ∧ ((∃ x, replay g ts = .ok x ∧ e = .returned (.tuple #[.bool (decide (n ≤ total x)), .nilIface])) ∨ (∃ c, replay g ts = .error c ∧ e = .returned (.tuple #[.bool false, .iface 36 (.int .i64 c)])))
set_option maxRecDepth 100000 in
set_option maxHeartbeats 1000000 in
theorem sfails_any (g : G) (v : Value) (hr : g.right) (n : Int) (eb : Nat) (ts : List Int) (ao : Option Addr) (m c : Nat) (hm : ts.length = m) (hl : m ≤ maxLen) (w : World) (hg : Gl w) (he : ExprAt w eb n) (hv : GenAt w v g) (hat : IntsAt .i64 w ao ts) :
    Calls Tryz.prog 148 #[v, wholeE eb, .slice ao m c] w (SFPost g n ts w) := by
  obtain ⟨gk, ga, gb, gao, gn, gc, hsh⟩ := hv.shape
  obtain ⟨w0, hw0⟩ : ∃ w0, w0 = (w.alloc (.cells #[.int .i64 gk, .int .i64 ga, .int .i64 gb, .slice gao gn gc] 28)).alloc (.cells #[.int .i64 7, .int .i64 0, .slice (some ⟨eb, 0, none⟩) 2 2] 41) := ⟨_, rfl⟩
  have hs0 : w0.heap.size = w.heap.size + 2 := by rw [hw0]; simp
  have hb0 : Below w.heap.size w w0 := by rw [hw0]; exact ((Below.refl w.heap.size w).alloc (Nat.le_refl _) _).alloc (by simp) _
  have k1 : Blk w0 (w.heap.size + 1) 41 #[.int .i64 7, .int .i64 0, .slice (some ⟨eb, 0, none⟩) 2 2] := by rw [hw0]; have := Blk.new (w.alloc (.cells #[.int .i64 gk, .int .i64 ga, .int .i64 gb, .slice gao gn gc] 28)) 41 #[.int .i64 7, .int .i64 0, .slice (some ⟨eb, 0, none⟩) 2 2]; simpa using this
  have HC := Lib.hid (replay_any g v hr ts ao m c hm hl w0 (hv.on hb0) (hat.below (Nat.le_refl _) hb0))
  have HK := Lib.hid (And.intro hb0 (And.intro k1 (And.intro (hg.on hb0) ((show Blk w eb _ _ from he).below hb0))))
  have HW := Lib.hid hw0
  have HS0 := Lib.hid hs0
  obtain ⟨B, hB⟩ : ∃ B, w.heap.size = B := ⟨_, rfl⟩
  rw [hsh] at HC ⊢
  rw [hw0] at HC
  clear hw0 hb0 k1 hs0 hv hat hg he
  go_enter Tryz.func148, Tryz.ntmps148
  go_wp2_with fail
  refine HC.out.mono ?_
  clear HC
  rintro e w1 ⟨hb1, hhow⟩
  rw [← HW.out] at hb1 hhow
  have hb1' := HK.out.1.trans (hb1.mono HK.out.1.size)
  rcases hhow with ⟨x, vv, hx, rfl, hval⟩ | ⟨cc, hx, rfl⟩
  · obtain ⟨vk, vz, vao, vn, vc, hvs⟩ := hval.shape
    have hk1 := HK.out.2.1.below hb1
    obtain ⟨w2, hw2⟩ : ∃ w2, w2 = w1.alloc (.cells #[.bool vk, .int .i64 vz, .slice vao vn vc] 53) := ⟨_, rfl⟩
    have hb2 : Below w1.heap.size w1 w2 := by rw [hw2]; exact (Below.refl _ _).alloc (Nat.le_refl _) _
    have k1 := hk1.below hb2
    rw [hB] at k1
    have c0 : w2.cell? ⟨B + 1, 0, none⟩ = some (.int .i64 7) := k1.cell 0
    have c1 : w2.cell? ⟨B + 1, 1, none⟩ = some (.int .i64 0) := k1.cell 1
    have c2 : w2.cell? ⟨B + 1, 2, none⟩ = some (.slice (some ⟨eb, 0, none⟩) 2 2) := k1.cell 2
    have HC2 := Lib.hid (fails_any n eb vv x _ w2 ((HK.out.2.2.1.on hb1).on hb2) (((show Blk w0 eb _ _ from HK.out.2.2.2).below hb1).below hb2) (hval.below hb2) (replay_small hr hx))
    have HX := Lib.hid hx
    have HB2 := Lib.hid (show Below w.heap.size w w2 from hb1'.trans (hb2.mono hb1'.size))
    have HW2 := Lib.hid hw2
    obtain ⟨t, ht⟩ : ∃ t, t = decide (n ≤ total x) := ⟨_, rfl⟩
    rw [← ht, hvs] at HC2
    have HT := Lib.hid ht
    rw [hw2] at c0 c1 c2 HC2
    subst hvs
    clear hval hk1 hb2 k1 hx hw2 ht hb1 hb1'
    go_wp2_with fail
    refine HC2.out.mono ?_
    clear HC2
    rintro e w3 ⟨rfl, hb3⟩
    rw [← HW2.out] at hb3
    have HB3 := Lib.hid (HB2.out.trans (hb3.mono HB2.out.size))
    clear hb3
    go_wp2_with fail
    go_ret2
    exact ⟨HB3.out, .inl ⟨x, HX.out, by rw [← HT.out]; rfl⟩⟩
  · have HX := Lib.hid hx
    have HB1 := Lib.hid hb1'
    have HBA := Lib.hid ((HB1.out.alloc HB1.out.size (.cells #[.bool false, .int .i64 0, .slice none 0 0] 53)))
    clear hb1 hb1' hx
    go_wp2_with fail
    go_ret2
    exact ⟨HBA.out, .inr ⟨cc, HX.out, rfl⟩⟩
end Go.Proofs.YtalbllijahiiiaaGreatDoor
