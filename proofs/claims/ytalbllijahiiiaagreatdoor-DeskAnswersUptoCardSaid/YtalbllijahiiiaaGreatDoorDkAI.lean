/- expr.Fails at a desk's expression. shrink.fails. shrink.Walk$1, rose.Less$1. rose.Less$1. -/
import Derived.Test.YtalbllijahiiiaaGreatDoorDkAH
section
namespace Go.Proofs.YtalbllijahiiiaaGreatDoor
open Go.RowKit Go.Mine Go.Mine.Desk

set_option maxRecDepth 100000 in
set_option maxHeartbeats 1000000 in
theorem fails_any (n : Int) (eb : Nat) (v : Value) (x : V) (B0 : Nat) (w : World) (hg : Gl w) (he : ExprAt w eb n) (hv : ValAt w B0 v x) (hx : VOk x) : Calls Tryz.prog 163 #[wholeE eb, v] w fun e w' => e = .returned (.tuple #[.bool (decide (n ≤ total x)), .nilIface]) ∧ Below w.heap.size w w' := by
  obtain ⟨vk, vz, vao, vn, vc, hsh⟩ := hv.shape
  obtain ⟨w2, hw2⟩ : ∃ w2, w2 = (w.alloc (.cells #[.int .i64 7, .int .i64 0, .slice (some ⟨eb, 0, none⟩) 2 2] 41)).alloc (.cells #[.bool vk, .int .i64 vz, .slice vao vn vc] 53) := ⟨_, rfl⟩
  have hb2 : Below w.heap.size w w2 := by rw [hw2]; exact ((Below.refl w.heap.size w).alloc (Nat.le_refl _) _).alloc (by simp) _
  have HC := Lib.hid (eval_any n eb v x B0 w2 (hg.on hb2) ((show Blk w eb _ _ from he).below hb2) (hv.below hb2) hx)
  have HB := Lib.hid hb2
  have HW := Lib.hid hw2
  have hnn : ∀ w : World, (binOp BinOp.eql 100 .nilIface (.iface 36 (.int .i64 6))).run Tryz.prog w = .ok (.bool false) w := fun _ => by kernel_rfl
  rw [hsh] at HC ⊢
  rw [hw2] at HC
  clear hw2 hb2 hv he hg
  by_cases ht : n ≤ total x
  · have hvd : verdict n x = 0 := by unfold verdict; rw [if_neg (by omega)]
    have hd : decide (n ≤ total x) = true := decide_eq_true ht
    rw [hvd] at HC
    rw [hd]
    go_enter Tryz.func163, Tryz.ntmps163
    go_wp2_with fail
    refine HC.out.mono ?_
    clear HC
    rintro e w3 ⟨rfl, hb3⟩
    rw [← HW.out] at hb3
    have HB3 := Lib.hid (HB.out.trans (hb3.mono HB.out.size))
    clear hb3
    go_wp2_with fail
    go_ret2
    exact ⟨rfl, HB3.out⟩
  · have hvd : verdict n x = 1 := by unfold verdict; rw [if_pos (by omega)]
    have hd : decide (n ≤ total x) = false := decide_eq_false ht
    rw [hvd] at HC
    rw [hd]
    go_enter Tryz.func163, Tryz.ntmps163
    go_wp2_with fail
    refine HC.out.mono ?_
    clear HC
    rintro e w3 ⟨rfl, hb3⟩
    rw [← HW.out] at hb3
    have HB3 := Lib.hid (HB.out.trans (hb3.mono HB.out.size))
    clear hb3
    go_wp2_with fail
    go_ret2
    exact ⟨rfl, HB3.out⟩
end Go.Proofs.YtalbllijahiiiaaGreatDoor
end

section
namespace Go.Proofs.YtalbllijahiiiaaGreatDoor
open Go.RowKit Go.Mine Go.Mine.Desk

theorem playN_small {a m : Int} (ha : near a) (hm : m ≤ 1000) : ∀ {k : Nat} {r zs r' : List Int}, playN a m k r = .ok (zs, r') → zs.length = k ∧ ∀ z ∈ zs, small z
  | 0, r, zs, r', h => by simp only [playN, Except.ok.injEq, Prod.mk.injEq] at h; obtain ⟨rfl, rfl⟩ := h; exact ⟨rfl, by simp⟩
  | k + 1, [], zs, r', h => by simp [playN] at h
  | k + 1, x :: r, zs, r', h => by
    rw [playN] at h
    split at h
    · cases h
    · rename_i hx
      cases hp : playN a m k r with
      | error e => rw [hp] at h; cases h
      | ok q =>
        obtain ⟨ys, r2⟩ := q
        rw [hp] at h
        simp only [Except.ok.injEq, Prod.mk.injEq] at h
        obtain ⟨rfl, rfl⟩ := h
        obtain ⟨h1, h2⟩ := playN_small ha hm hp
        refine ⟨by rw [List.length_cons, h1], fun z hz => ?_⟩
        rcases List.mem_cons.1 hz with rfl | hz
        · unfold near at ha; unfold small; omega
        · exact h2 z hz
theorem replay_small {g : G} (hr : g.right) {ts : List Int} {x : V} (h : replay g ts = .ok x) : VOk x := by
  cases g with
  | int a b =>
    obtain ⟨ha, hb, hab, hba⟩ := hr
    rw [replay] at h
    cases hp : playN a (b - a) 1 ts with
    | error e => rw [hp] at h; cases h
    | ok q =>
      obtain ⟨zs, r⟩ := q
      rw [hp] at h
      simp only at h
      split at h
      · cases h
        obtain ⟨h1, h2⟩ := playN_small ha hba hp
        refine h2 _ ?_
        cases zs with
        | nil => cases h1
        | cons y r => simp
      · cases h
  | many n a b =>
    obtain ⟨hn0, hn5, ha, hb, hab, hba⟩ := hr
    cases ts with
    | nil => cases h
    | cons k l =>
      rw [replay] at h
      split at h
      · cases h
      · cases hp : playN a (b - a) k.toNat l with
        | error e => rw [hp] at h; cases h
        | ok q =>
          obtain ⟨zs, r⟩ := q
          rw [hp] at h
          simp only at h
          split at h
          · cases h
            obtain ⟨h1, h2⟩ := playN_small ha hba hp
            exact ⟨by omega, h2⟩
          · cases h
def SFPost (g : G) (n : Int) (ts : List Int) (w : World) (e : Ending) (w' : World) : Prop :=
  Below w.heap.size w w' ∧ ((∃ x, replay g ts = .ok x ∧ e = .returned (.tuple #[.bool (decide (n ≤ total x)), .nilIface])) ∨ (∃ c, replay g ts = .error c ∧ e = .returned (.tuple #[.bool false, .iface 36 (.int .i64 c)])))
set_option maxRecDepth 100000 in
set_option maxHeartbeats 1000000 in
theorem sfails_any (g : G) (v : Value) (hr : g.right) (n : Int) (eb : Nat) (ts : List Int) (ao : Option Addr) (m c : Nat) (hm : ts.length = m) (hl : m ≤ maxLen) (w : World) (hg : Gl w) (he : ExprAt w eb n) (hv : GenAt w v g) (hat : IntsAt .i64 w ao ts) :
    Calls Tryz.prog 148 #[v, wholeE eb, .slice ao m c] w (SFPost g n ts w) := by
  obtain ⟨gk, ga, gb, gao, gn, gc, hsh⟩ := hv.shape
  obtain ⟨w0, hw0⟩ : ∃ w0, w0 = (w.alloc (.cells #[.int .i64 gk, .int .i64 ga, .int .i64 gb, .slice gao gn gc] 28)).alloc (.cells #[.int .i64 7, .int .i64 0, .slice (some ⟨eb, 0, none⟩) 2 2] 41) := ⟨_, rfl⟩
  have hs0 : w0.heap.size = w.heap.size + 2 := by rw [hw0]; simp
  have hb0 : Below w.heap.size w w0 := by rw [hw0]; exact ((Below.refl w.heap.size w).alloc (Nat.le_refl _) _).alloc (by simp) _
  have k1 : Blk w0 (w.heap.size + 1) 41 #[.int .i64 7, .int .i64 0, .slice (some ⟨eb, 0, none⟩) 2 2] := by rw [hw0]; have := Blk.new (w.alloc (.cells #[.int .i64 gk, .int .i64 ga, .int .i64 gb, .slice gao gn gc] 28)) 41 #[.int .i64 7, .int .i64 0, .slice (some ⟨eb, 0, none⟩) 2 2]; simpa using this
  have HC := Lib.hid (replay_any g v hr ts ao m c hm hl w0 (hv.on hb0) (hat.below (Nat.le_refl _) hb0))
  have HK := Lib.hid (And.intro hb0 (And.intro k1 (And.intro (hg.on hb0) ((show Blk w eb _ _ from he).below hb0))))
  have HW := Lib.hid hw0
  have HS0 := Lib.hid hs0
  obtain ⟨B, hB⟩ : ∃ B, w.heap.size = B := ⟨_, rfl⟩
  rw [hsh] at HC ⊢
  rw [hw0] at HC
  clear hw0 hb0 k1 hs0 hv hat hg he
  go_enter Tryz.func148, Tryz.ntmps148
  go_wp2_with fail
  refine HC.out.mono ?_
  clear HC
  rintro e w1 ⟨hb1, hhow⟩
  rw [← HW.out] at hb1 hhow
  have hb1' := HK.out.1.trans (hb1.mono HK.out.1.size)
  rcases hhow with ⟨x, vv, hx, rfl, hval⟩ | ⟨cc, hx, rfl⟩
  · obtain ⟨vk, vz, vao, vn, vc, hvs⟩ := hval.shape
    have hk1 := HK.out.2.1.below hb1
    obtain ⟨w2, hw2⟩ : ∃ w2, w2 = w1.alloc (.cells #[.bool vk, .int .i64 vz, .slice vao vn vc] 53) := ⟨_, rfl⟩
    have hb2 : Below w1.heap.size w1 w2 := by rw [hw2]; exact (Below.refl _ _).alloc (Nat.le_refl _) _
    have k1 := hk1.below hb2
    rw [hB] at k1
    have c0 : w2.cell? ⟨B + 1, 0, none⟩ = some (.int .i64 7) := k1.cell 0
    have c1 : w2.cell? ⟨B + 1, 1, none⟩ = some (.int .i64 0) := k1.cell 1
    have c2 : w2.cell? ⟨B + 1, 2, none⟩ = some (.slice (some ⟨eb, 0, none⟩) 2 2) := k1.cell 2
    have HC2 := Lib.hid (fails_any n eb vv x _ w2 ((HK.out.2.2.1.on hb1).on hb2) (((show Blk w0 eb _ _ from HK.out.2.2.2).below hb1).below hb2) (hval.below hb2) (replay_small hr hx))
    have HX := Lib.hid hx
    have HB2 := Lib.hid (show Below w.heap.size w w2 from hb1'.trans (hb2.mono hb1'.size))
    have HW2 := Lib.hid hw2
    obtain ⟨t, ht⟩ : ∃ t, t = decide (n ≤ total x) := ⟨_, rfl⟩
    rw [← ht, hvs] at HC2
    have HT := Lib.hid ht
    rw [hw2] at c0 c1 c2 HC2
    subst hvs
    clear hval hk1 hb2 k1 hx hw2 ht hb1 hb1'
    go_wp2_with fail
    refine HC2.out.mono ?_
    clear HC2
    rintro e w3 ⟨rfl, hb3⟩
    rw [← HW2.out] at hb3
    have HB3 := Lib.hid (HB2.out.trans (hb3.mono HB2.out.size))
    clear hb3
    go_wp2_with fail
    go_ret2
    exact ⟨HB3.out, .inl ⟨x, HX.out, by rw [← HT.out]; rfl⟩⟩
  · have HX := Lib.hid hx
    have HB1 := Lib.hid hb1'
    have HBA := Lib.hid ((HB1.out.alloc HB1.out.size (.cells #[.bool false, .int .i64 0, .slice none 0 0] 53)))
    clear hb1 hb1' hx
    go_wp2_with fail
    go_ret2
    exact ⟨HBA.out, .inr ⟨cc, HX.out, rfl⟩⟩
end Go.Proofs.YtalbllijahiiiaaGreatDoor
end

section
namespace Go.Proofs.YtalbllijahiiiaaGreatDoor
open Go.RowKit Go.Mine Go.Mine.Desk

set_option maxRecDepth 100000 in
set_option maxHeartbeats 1000000 in
theorem walk1_any (g : G) (v : Value) (hr : g.right) (n : Int) (eb gB eB : Nat) (ts : List Int) (ao : Option Addr) (m c : Nat) (hm : ts.length = m) (hl : m ≤ maxLen) (gk ga gb : Int) (gao : Option Addr) (gn gc : Nat) (hsh : v = .agg #[.int .i64 gk, .int .i64 ga, .int .i64 gb, .slice gao gn gc]) (w : World) (hg : Gl w) (he : ExprAt w eb n) (hv : GenAt w v g) (hat : IntsAt .i64 w ao ts)
    (kg : Blk w gB 28 #[.int .i64 gk, .int .i64 ga, .int .i64 gb, .slice gao gn gc]) (ke : Blk w eB 41 #[.int .i64 7, .int .i64 0, .slice (some ⟨eb, 0, none⟩) 2 2]) :
    Calls Tryz.prog 150 #[.slice ao m c, .pointer (some ⟨gB, 0, none⟩), .pointer (some ⟨eB, 0, none⟩)] w fun e w' => e = .returned (.bool (bad g n ts)) ∧ Below w.heap.size w w' := by
  have c0 : w.cell? ⟨gB, 0, none⟩ = some (.int .i64 gk) := kg.cell 0
  have c1 : w.cell? ⟨gB, 1, none⟩ = some (.int .i64 ga) := kg.cell 1
  have c2 : w.cell? ⟨gB, 2, none⟩ = some (.int .i64 gb) := kg.cell 2
  have c3 : w.cell? ⟨gB, 3, none⟩ = some (.slice gao gn gc) := kg.cell 3
  have e0 : w.cell? ⟨eB, 0, none⟩ = some (.int .i64 7) := ke.cell 0
  have e1 : w.cell? ⟨eB, 1, none⟩ = some (.int .i64 0) := ke.cell 1
  have e2 : w.cell? ⟨eB, 2, none⟩ = some (.slice (some ⟨eb, 0, none⟩) 2 2) := ke.cell 2
  have HC := Lib.hid (sfails_any g v hr n eb ts ao m c hm hl w hg he hv hat)
  rw [hsh] at HC
  clear hg he hv hat kg ke hr
  go_enter Tryz.func150, Tryz.ntmps150
  go_wp2_with fail
  refine HC.out.mono ?_
  clear HC
  rintro e w1 ⟨hb1, ⟨x, hx, rfl⟩ | ⟨cc, hx, rfl⟩⟩
  · have HB1 := Lib.hid hb1
    have HX := Lib.hid (show bad g n ts = decide (n ≤ total x) by unfold bad; rw [hx])
    obtain ⟨t, ht⟩ : ∃ t, t = decide (n ≤ total x) := ⟨_, rfl⟩
    rw [← ht] at HX ⊢
    clear hb1 hx ht
    go_wp2_with fail
    go_ret
    exact ⟨by rw [HX.out]; rfl, HB1.out⟩
  · have HB1 := Lib.hid hb1
    have HX := Lib.hid (show bad g n ts = false by unfold bad; rw [hx])
    have hne : ∀ w : World, (binOp BinOp.eql 100 (.iface 36 (.int .i64 cc)) .nilIface).run Tryz.prog w = .ok (.bool false) w := fun _ => by kernel_rfl
    clear hb1 hx
    go_wp2_with fail
    go_ret
    exact ⟨by rw [HX.out]; rfl, HB1.out⟩
def GridOwn (w : World) (B : Nat) (u : Value) (rows : List (List Int)) : Prop := ∃ vs, w.ownsRow B 48 1 u rows.length vs ∧ ∀ j, j < rows.length → ∃ v, vs[j]? = some v ∧ w.ownsRow B 3 1 v (rows.getD j []).length ((rows.getD j []).map (.int .i64))
theorem GridOwn.nil (w : World) (B : Nat) : GridOwn w B (.slice none 0 0) [] := ⟨[], World.ownsRow_nil _ _ _ _, fun j hj => by simp at hj⟩
theorem GridOwn.on {w w' : World} {B : Nat} {u : Value} {rows : List (List Int)} (h : GridOwn w B u rows) (hs : ∀ k, B ≤ k → k < w.heap.size → w'.heap[k]? = w.heap[k]?) : GridOwn w' B u rows := by
  obtain ⟨vs, h1, h2⟩ := h
  refine ⟨vs, owns_same h1 fun g hg => hs g (h1.lt g hg).1 (h1.lt g hg).2, fun j hj => ?_⟩
  obtain ⟨v, h3, h4⟩ := h2 j hj
  exact ⟨v, h3, owns_same h4 fun g hg => hs g (h4.lt g hg).1 (h4.lt g hg).2⟩
theorem GridOwn.below {w w' : World} {B : Nat} {u : Value} {rows : List (List Int)} (h : GridOwn w B u rows) (hb : Below w.heap.size w w') : GridOwn w' B u rows := h.on fun _ _ hk => hb.block _ hk
theorem GridOwn.shape {w : World} {B : Nat} {u : Value} {rows : List (List Int)} (h : GridOwn w B u rows) : ∃ ao c, u = .slice ao rows.length c := by
  obtain ⟨vs, h1, _⟩ := h
  exact owns_shape h1
theorem GridOwn.push {w w7 : World} {B g cap : Nat} {u v : Value} {rows : List (List Int)} {row : List Int} {cs : Array Value} {vs : List Value} (h1 : w.ownsRow B 48 1 u rows.length vs) (h2 : ∀ j, j < rows.length → ∃ v, vs[j]? = some v ∧ w.ownsRow B 3 1 v (rows.getD j []).length ((rows.getD j []).map (.int .i64))) (hr : w.ownsRow B 3 1 v row.length (row.map (.int .i64)))
    (hown : w7.ownsRow B 48 1 (.slice (some ⟨g, 0, none⟩) (rows.length + 1) cap) (rows.length + 1) (vs ++ [v])) (hgr : (w.alloc (.cells cs 48)).grownBy w7 u.ownBlock) : GridOwn w7 B (.slice (some ⟨g, 0, none⟩) (rows.length + 1) cap) (rows ++ [row]) := by
  have hvl : vs.length = rows.length := by have := h1.1; omega
  refine ⟨vs ++ [v], by rw [List.length_append]; exact hown, fun j hj => ?_⟩
  rw [List.length_append, List.length_cons, List.length_nil] at hj
  rcases Nat.lt_or_ge j rows.length with h | h
  · obtain ⟨v', h3, h4⟩ := h2 j h
    have e : (rows ++ [row]).getD j [] = rows.getD j [] := by simp [List.getD_eq_getElem?_getD, List.getElem?_append_left h]
    rw [e]
    exact ⟨v', by rw [List.getElem?_append_left (by omega)]; exact h3, owns_other h4 h1 (by decide) hgr⟩
  · obtain rfl : j = rows.length := by omega
    have e : (rows ++ [row]).getD rows.length [] = row := by simp [List.getD_eq_getElem?_getD]
    rw [e]
    exact ⟨v, by rw [List.getElem?_append_right (by omega), hvl]; simp, owns_other hr h1 (by decide) hgr⟩
end Go.Proofs.YtalbllijahiiiaaGreatDoor
end

section
namespace Go.Proofs.YtalbllijahiiiaaGreatDoor
open Go.RowKit Go.Mine Go.Mine.Desk

def kept (g : G) (l ts : List Int) : List (List Int) := if tapeLt (mend g ts) l then [mend g ts] else []
theorem mend_len (g : G) (hr : g.right) (ts : List Int) : (mend g ts).length ≤ 6 := by
  cases g with
  | int a b => simp [mend]
  | many n a b =>
    obtain ⟨h0, h5, _⟩ := hr
    have : (clamp n (ts.getD 0 0)).toNat ≤ 5 := by unfold clamp; omega
    simp only [mend, List.length_cons, List.length_map, List.length_range]
    omega
def KeepPost (g : G) (l ts : List Int) (rows : List (List Int)) (u : Value) (ob B : Nat) (w : World) (e : Ending) (w' : World) : Prop :=
  e = .returned .nilIface ∧ Tch (fun k => k = ob ∨ u.ownBlock = some k) w w' ∧ ∃ u', Blk w' ob 58 #[u'] ∧ GridOwn w' B u' (rows ++ kept g l ts) ∧ ∀ k, u'.ownBlock = some k → u.ownBlock = some k ∨ w.heap.size ≤ k
theorem infoInts : (Tryz.prog.info? 48).map (fun i => (i.zero, i.size, i.bytes)) = some (some (.slice none 0 0), 1, 24) := by kernel_rfl
set_option maxRecDepth 100000 in
set_option maxHeartbeats 1000000 in
theorem keep_any (g : G) (v : Value) (hr : g.right) (l ts : List Int) (lo ao : Option Addr) (ln lc m c : Nat) (hln : l.length = ln) (hll : ln ≤ maxLen) (hm : ts.length = m) (hl : m ≤ maxLen) (gB tB ob B : Nat) (gk ga gb : Int) (gao : Option Addr) (gn gc : Nat) (hsh : v = .agg #[.int .i64 gk, .int .i64 ga, .int .i64 gb, .slice gao gn gc]) (u : Value) (rows : List (List Int)) (w : World)
    (hv : GenAt w v g) (hat : IntsAt .i64 w ao ts) (hlat : IntsAt .i64 w lo l) (kg : Blk w gB 28 #[.int .i64 gk, .int .i64 ga, .int .i64 gb, .slice gao gn gc]) (kt : Blk w tB 48 #[.slice lo ln lc]) (ko : Blk w ob 58 #[u]) (hgr : GridOwn w B u rows) (hoB : ob < B) (hBw : B ≤ w.heap.size) (hrows : rows.length ≤ 100000) :
    Calls Tryz.prog 88 #[.slice ao m c, .pointer (some ⟨gB, 0, none⟩), .pointer (some ⟨tB, 0, none⟩), .pointer (some ⟨ob, 0, none⟩)] w (KeepPost g l ts rows u ob B w) := by
  have c0 : w.cell? ⟨gB, 0, none⟩ = some (.int .i64 gk) := kg.cell 0
  have c1 : w.cell? ⟨gB, 1, none⟩ = some (.int .i64 ga) := kg.cell 1
  have c2 : w.cell? ⟨gB, 2, none⟩ = some (.int .i64 gb) := kg.cell 2
  have c3 : w.cell? ⟨gB, 3, none⟩ = some (.slice gao gn gc) := kg.cell 3
  have HC := Lib.hid (mend_any g v hr ts ao m c hm hl w hv hat)
  rw [hsh] at HC
  obtain ⟨uo, uc, rfl⟩ := hgr.shape
  obtain ⟨i0, hi0, hz0, hz1, hz2⟩ := info_parts infoInts
  have HH := Lib.hid (And.intro kt (And.intro ko (And.intro hgr hlat)))
  have hml := mend_len g hr ts
  obtain ⟨mt, hmt⟩ : ∃ mt, mt = mend g ts := ⟨_, rfl⟩
  rw [← hmt] at hml
  have HMT := Lib.hid hmt
  have hnil : ∀ w : World, (binOp BinOp.eql 100 .nilIface .nilIface).run Tryz.prog w = .ok (.bool true) w := fun _ => by kernel_rfl
  clear hv hat hlat kg kt ko hgr hmt
  go_enter Tryz.func88, Tryz.ntmps88
  go_wp2_with fail
  refine HC.out.mono ?_
  clear HC
  rintro e w1 ⟨hb1, ru, rfl, hru⟩
  rw [← HMT.out] at hru
  obtain ⟨ro, rc, rfl⟩ := owns_shape hru
  have hat1 := IntsAt.of_owns hru
  have hsz1 := hb1.size
  have kt1 := HH.out.1.below hb1
  have ko1 := HH.out.2.1.below hb1
  have d0 : w1.cell? ⟨tB, 0, none⟩ = some (.slice lo ln lc) := kt1.cell 0
  have o0 : w1.cell? ⟨ob, 0, none⟩ = some (.slice uo rows.length uc) := ko1.cell 0
  have p0 := ko1.froz 0
  have hgr1 := HH.out.2.2.1.below hb1
  have HC2 := Lib.hid (tapeLess_any mt l ro lo rc lc w1 hat1 (HH.out.2.2.2.below (Nat.le_refl _) hb1) (by unfold maxLen; omega) (by omega))
  rw [hln] at HC2
  have HR1 := Lib.hid (And.intro hru (And.intro hgr1 (And.intro ko1 hb1)))
  have holt := ko1.lt
  clear hru hat1 kt1 ko1 hgr1 hb1
  cases hlt : tapeLt mt l with
  | false =>
    have HKT := Lib.hid (show kept g l ts = [] by unfold kept; rw [← HMT.out, hlt]; rfl)
    rw [hlt] at HC2
    clear hlt
    go_wp2_with fail
    refine HC2.out.mono ?_
    rintro e w2 ⟨rfl, rfl⟩
    go_wp2_with fail
    go_ret
    exact ⟨rfl, Tch.of_below HR1.out.2.2.2, _, HR1.out.2.2.1, by rw [HKT.out, List.append_nil]; exact HR1.out.2.1, fun k hk => .inl hk⟩
  | true =>
    have HKT := Lib.hid (show kept g l ts = [mt] by unfold kept; rw [← HMT.out, hlt]; rfl)
    rw [hlt] at HC2
    clear hlt
    obtain ⟨vs, hv1, hv2⟩ := HR1.out.2.1
    have HV := Lib.hid (And.intro hv1 hv2)
    clear hv1 hv2
    go_wp2_with fail
    refine HC2.out.mono ?_
    clear HC2
    rintro e w2 ⟨rfl, rfl⟩
    go_wp2_with (at_builtin; refine wpList_push2 _ rfl _ _ 58 rfl B 48 i0 (.slice none 0 0) 1 24 Tryz.underlying58 hi0 hz0 hz1 hz2 rfl (by decide) _ _ _ rfl (HV.out.1.alloc _) ⟨w1.heap.size, 0, none⟩ 1 [.slice ro mt.length rc] rfl rfl (World.news_of_block (cs := #[.slice ro mt.length rc]) (t := 48) (fr := (0, 0)) (heap_alloc_at _ _ rfl)) (by simp [Value.oneCell']) (by unfold maxLen; omega) (by omega) (by simp; omega) ?_)
    intro gg cap w7 hown hgrw hat7
    have hgrid := GridOwn.push HV.out.1 HV.out.2 (HR1.out.1.mono (by omega)) hown hgrw
    have hb7 : w7.heap[ob]? = w1.heap[ob]? := by
      rw [hgrw.block ob (by simp; omega) (fun e => by have := (HV.out.1.lt ob e.symm).1; omega), Below.heap_alloc w1 _ ob holt]
    have e0 : w7.cell? ⟨ob, 0, none⟩ = some (.slice uo rows.length uc) := (World.cell?_of_block (a := ⟨ob, 0, none⟩) hb7).trans o0
    have e1 : w7.frozen? ⟨ob, 0, none⟩ = false := (World.frozen?_of_block (a := ⟨ob, 0, none⟩) hb7).trans p0
    have hT7 : Tch (fun k => k = ob ∨ (Value.slice uo rows.length uc).ownBlock = some k) w w7 := ((Tch.of_below HR1.out.2.2.2).alloc _).grown hgrw fun k hk => .inl (.inr hk)
    have HAT := Lib.hid (show (Value.slice uo rows.length uc).ownBlock = some gg ∨ w.heap.size ≤ gg from hat7.imp_right fun h => by omega)
    have HF := Lib.hid (And.intro hgrid (And.intro (HR1.out.2.2.1.same hb7) hT7))
    clear hown hgrw hat7 hgrid hb7 hT7
    go_wp2_with fail
    go_ret
    refine ⟨rfl, HF.out.2.2.set (p := ⟨ob, 0, none⟩) (.inl (.inl rfl)) _, _, HF.out.2.1.set 0 _, ?_, fun k hk => ?_⟩
    · rw [HKT.out]
      exact HF.out.1.on fun k hk _ => Below.heap_setCell _ _ _ _ (by show k ≠ ob; omega)
    · cases hk
      exact HAT.out
end Go.Proofs.YtalbllijahiiiaaGreatDoor
end
