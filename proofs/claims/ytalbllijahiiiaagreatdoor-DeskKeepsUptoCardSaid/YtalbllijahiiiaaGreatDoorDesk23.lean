/- rose.Less$1. -/
import Derived.Test.YtalbllijahiiiaaGreatDoorDesk22
namespace Go.Proofs.YtalbllijahiiiaaGreatDoor
open Go.RowKit Go.Mine Go.Mine.Desk

def kept (g : G) (l ts : List Int) : List (List Int) := if tapeLt (mend g ts) l then [mend g ts] else []
theorem mend_len (g : G) (hr : g.right) (ts : List Int) : (mend g ts).length ≤ 6 := by
  cases g with
  | int a b => simp [mend]
  | many n a b =>
    obtain ⟨h0, h5, _⟩ := hr
    have : (clamp n (ts.getD 0 0)).toNat ≤ 5 := by unfold clamp; omega
    simp only [mend, List.length_cons, List.length_map, List.length_range]
    omega
def KeepPost (g : G) (l ts : List Int) (rows : List (List Int)) (u : Value) (ob B : Nat) (w : World) (e : Ending) (w' : World) : Prop :=
  e = .returned .nilIface ∧ Tch (fun k => k = ob ∨ u.ownBlock = some k) w w' ∧ ∃ u', Blk w' ob 58 #[u'] ∧ GridOwn w' B u' (rows ++ kept g l ts) ∧ ∀ k, u'.ownBlock = some k → u.ownBlock = some k ∨ w.heap.size ≤ k
theorem infoInts : (Tryz.prog.info? 48).map (fun i => (i.zero, i.size, i.bytes)) = some (some (.slice none 0 0), 1, 24) := by kernel_rfl
set_option maxRecDepth 100000 in
set_option maxHeartbeats 1000000 in
theorem keep_any (g : G) (v : Value) (hr : g.right) (l ts : List Int) (lo ao : Option Addr) (ln lc m c : Nat) (hln : l.length = ln) (hll : ln ≤ maxLen) (hm : ts.length = m) (hl : m ≤ maxLen) (gB tB ob B : Nat) (gk ga gb : Int) (gao : Option Addr) (gn gc : Nat) (hsh : v = .agg #[.int .i64 gk, .int .i64 ga, .int .i64 gb, .slice gao gn gc]) (u : Value) (rows : List (List Int)) (w : World)
    (hv : GenAt w v g) (hat : IntsAt .i64 w ao ts) (hlat : IntsAt .i64 w lo l) (kg : Blk w gB 28 #[.int .i64 gk, .int .i64 ga, .int .i64 gb, .slice gao gn gc]) (kt : Blk w tB 48 #[.slice lo ln lc]) (ko : Blk w ob 58 #[u]) (hgr : GridOwn w B u rows) (hoB : ob < B) (hBw : B ≤ w.heap.size) (hrows : rows.length ≤ 100000) :
    Calls Tryz.prog 88 #[.slice ao m c, .pointer (some ⟨gB, 0, none⟩), .pointer (some ⟨tB, 0, none⟩), .pointer (some ⟨ob, 0, none⟩)] w (KeepPost g l ts rows u ob B w) := by
  have c0 : w.cell? ⟨gB, 0, none⟩ = some (.int .i64 gk) := kg.cell 0
  have c1 : w.cell? ⟨gB, 1, none⟩ = some (.int .i64 ga) := kg.cell 1
  have c2 : w.cell? ⟨gB, 2, none⟩ = some (.int .i64 gb) := kg.cell 2
  have c3 : w.cell? ⟨gB, 3, none⟩ = some (.slice gao gn gc) := kg.cell 3
  have HC := Lib.hid (mend_any g v hr ts ao m c hm hl w hv hat)
  rw [hsh] at HC
  obtain ⟨uo, uc, rfl⟩ := hgr.shape
  obtain ⟨i0, hi0, hz0, hz1, hz2⟩ := info_parts infoInts
  have HH := Lib.hid (And.intro kt (And.intro ko (And.intro hgr hlat)))
  have hml := mend_len g hr ts
  obtain ⟨mt, hmt⟩ : ∃ mt, mt = mend g ts := ⟨_, rfl⟩
  rw [← hmt] at hml
  have HMT := Lib.hid hmt
  have hnil : ∀ w : World, (binOp BinOp.eql 100 .nilIface .nilIface).run Tryz.prog w = .ok (.bool true) w := fun _ => by kernel_rfl
  clear hv hat hlat kg kt ko hgr hmt
  go_enter Tryz.func88, Tryz.ntmps88
  go_wp2_with fail
  refine HC.out.mono ?_
  clear HC
  rintro e w1 ⟨hb1, ru, rfl, hru⟩
  rw [← HMT.out] at hru
  obtain ⟨ro, rc, rfl⟩ := owns_shape hru
  have hat1 := IntsAt.of_owns hru
  have hsz1 := hb1.size
  have kt1 := HH.out.1.below hb1
  have ko1 := HH.out.2.1.below hb1
  have d0 : w1.cell? ⟨tB, 0, none⟩ = some (.slice lo ln lc) := kt1.cell 0
  have o0 : w1.cell? ⟨ob, 0, none⟩ = some (.slice uo rows.length uc) := ko1.cell 0
  have p0 := ko1.froz 0
  have hgr1 := HH.out.2.2.1.below hb1
  have HC2 := Lib.hid (tapeLess_any mt l ro lo rc lc w1 hat1 (HH.out.2.2.2.below (Nat.le_refl _) hb1) (by unfold maxLen; omega) (by omega))
  rw [hln] at HC2
  have HR1 := Lib.hid (And.intro hru (And.intro hgr1 (And.intro ko1 hb1)))
  have holt := ko1.lt
  clear hru hat1 kt1 ko1 hgr1 hb1
  cases hlt : tapeLt mt l with
  | false =>
    have HKT := Lib.hid (show kept g l ts = [] by unfold kept; rw [← HMT.out, hlt]; rfl)
    rw [hlt] at HC2
    clear hlt
    go_wp2_with fail
    refine HC2.out.mono ?_
    rintro e w2 ⟨rfl, rfl⟩
    go_wp2_with fail
    go_ret
    exact ⟨rfl, Tch.of_below HR1.out.2.2.2, _, HR1.out.2.2.1, by rw [HKT.out, List.append_nil]; exact HR1.out.2.1, fun k hk => .inl hk⟩
  | true =>
    have HKT := Lib.hid (show kept g l ts = [mt] by unfold kept; rw [← HMT.out, hlt]; rfl)
    rw [hlt] at HC2
    clear hlt
    obtain ⟨vs, hv1, hv2⟩ := HR1.out.2.1
    have HV := Lib.hid (And.intro hv1 hv2)
    clear hv1 hv2
    go_wp2_with fail
    refine HC2.out.mono ?_
    clear HC2
    rintro e w2 ⟨rfl, rfl⟩
    go_wp2_with (at_builtin; refine wpList_push2 _ rfl _ _ 58 rfl B 48 i0 (.slice none 0 0) 1 24 Tryz.underlying58 hi0 hz0 hz1 hz2 rfl (by decide) _ _ _ rfl (HV.out.1.alloc _) ⟨w1.heap.size, 0, none⟩ 1 [.slice ro mt.length rc] rfl rfl (World.news_of_block (cs := #[.slice ro mt.length rc]) (t := 48) (fr := (0, 0)) (heap_alloc_at _ _ rfl)) (by simp [Value.oneCell']) (by unfold maxLen; omega) (by omega) (by simp; omega) ?_)
    intro gg cap w7 hown hgrw hat7
    have hgrid := GridOwn.push HV.out.1 HV.out.2 (HR1.out.1.mono (by omega)) hown hgrw
    have hb7 : w7.heap[ob]? = w1.heap[ob]? := by
      rw [hgrw.block ob (by simp; omega) (fun e => by have := (HV.out.1.lt ob e.symm).1; omega), Below.heap_alloc w1 _ ob holt]
    have e0 : w7.cell? ⟨ob, 0, none⟩ = some (.slice uo rows.length uc) := (World.cell?_of_block (a := ⟨ob, 0, none⟩) hb7).trans o0
    have e1 : w7.frozen? ⟨ob, 0, none⟩ = false := (World.frozen?_of_block (a := ⟨ob, 0, none⟩) hb7).trans p0
    have hT7 : Tch (fun k => k = ob ∨ (Value.slice uo rows.length uc).ownBlock = some k) w w7 := ((Tch.of_below HR1.out.2.2.2).alloc _).grown hgrw fun k hk => .inl (.inr hk)
    have HAT := Lib.hid (show (Value.slice uo rows.length uc).ownBlock = some gg ∨ w.heap.size ≤ gg from hat7.imp_right fun h => by omega)
    have HF := Lib.hid (And.intro hgrid (And.intro (HR1.out.2.2.1.same hb7) hT7))
    clear hown hgrw hat7 hgrid hb7 hT7
    go_wp2_with fail
    go_ret
    refine ⟨rfl, HF.out.2.2.set (p := ⟨ob, 0, none⟩) (.inl (.inl rfl)) _, _, HF.out.2.1.set 0 _, ?_, fun k hk => ?_⟩
    · rw [HKT.out]
      exact HF.out.1.on fun k hk _ => Below.heap_setCell _ _ _ _ (by show k ≠ ob; omega)
    · cases hk
      exact HAT.out
end Go.Proofs.YtalbllijahiiiaaGreatDoor
