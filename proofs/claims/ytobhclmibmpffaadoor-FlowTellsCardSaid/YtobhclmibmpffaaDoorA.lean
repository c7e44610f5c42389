import Derived.Test.YtobhclmibmpffaaDoorRows
import Derived.Test.YtobhclmibmpffaaDoorPairs
import Derived.Test.YtobhclmibmpffaaDoorMet
namespace Go.Proofs.YtobhclmibmpffaaDoor
open Go.RowKit Go.Mine Go.Mine.Flow

/-- What a visit finds in memory: l, but, the marks, itself. -/
structure VOwn (es : List (Int × Int)) (lo : Option Addr) (lc : Nat) (but : Int) (B n : Nat) (xs : List Bool) (w : World) : Prop where
  l : w.cell? ⟨B, 0, none⟩ = some (.slice lo es.length lc)
  but : w.cell? ⟨B + 1, 0, none⟩ = some (.int .i64 but)
  out : w.cell? ⟨B + 1 + 1 + 1, 0, none⟩ = some (.slice (some ⟨B + 1 + 1, 0, none⟩) n n)
  row : w.ownsRow (B + 1 + 1) 4 1 (.slice (some ⟨B + 1 + 1, 0, none⟩) n n) n (xs.map Value.bool)
  visit : w.cell? ⟨B + 1 + 1 + 1 + 1, 0, none⟩ = some (.func (.func 22) #[] #[.pointer (some ⟨B + 1, 0, none⟩), .pointer (some ⟨B + 1 + 1 + 1, 0, none⟩), .pointer (some ⟨B, 0, none⟩), .pointer (some ⟨B + 1 + 1 + 1 + 1, 0, none⟩)])
  edges : PairsAt w lo es
  far : 0 < es.length → ∀ b o s, lo = some ⟨b, o, s⟩ → b < B
  size : B + 5 ≤ w.heap.size

theorem VOwn.grown {es : List (Int × Int)} {lo : Option Addr} {lc : Nat} {but : Int} {B n : Nat} {xs ys : List Bool} {w w' : World} (h : VOwn es lo lc but B n xs w) (hg : w.grownBy w' (some (B + 1 + 1)))
    (hr : w'.ownsRow (B + 1 + 1) 4 1 (.slice (some ⟨B + 1 + 1, 0, none⟩) n n) n (ys.map Value.bool)) : VOwn es lo lc but B n ys w' :=
  ⟨hg.cell h.l (by intro e; simp at e; try omega), hg.cell h.but (by intro e; simp at e; try omega), hg.cell h.out (by intro e; simp at e; try omega), hr, hg.cell h.visit (by intro e; simp at e; try omega), h.edges.grown hg (fun hp b o s e => by have := h.far hp b o s e; simp; omega), h.far, Nat.le_trans h.size hg.size⟩

/-- The edges as plain numbers. -/
def nat (es : List (Int × Int)) : List (Nat × Nat) := es.map fun e => (e.1.toNat, e.2.toNat)

set_option maxHeartbeats 400000 in
theorem visit_any (es : List (Int × Int)) (lo : Option Addr) (lc : Nat) (but : Int) (B n : Nat) (hes : ∀ e ∈ es, 0 ≤ e.1 ∧ e.1 < n ∧ 0 ≤ e.2 ∧ e.2 < n) (_hn : n ≤ 12) (hel : es.length ≤ 1000000) :
    ∀ (f : Nat) (i : Nat) (xs : List Bool) (S : Nat → Prop) (W : World), i < n → xs.length = n → unmarked xs ≤ f → VOwn es lo lc but B n xs W →
      Calls Tryd.prog 22 #[.int .i64 i, .pointer (some ⟨B + 1, 0, none⟩), .pointer (some ⟨B + 1 + 1 + 1, 0, none⟩), .pointer (some ⟨B, 0, none⟩), .pointer (some ⟨B + 1 + 1 + 1 + 1, 0, none⟩)] W
        fun e w' => e = .returned (.tuple #[]) ∧ ∃ ys, Vis (nat es) but S i xs ys ∧ VOwn es lo lc but B n ys w' ∧ W.grownBy w' (some (B + 1 + 1)) := by
  intro f
  induction f with
  | zero =>
    intro i xs S W hi hl hc ho
    have hm : xs.getD i false = true := by
      cases h : xs.getD i false
      · have := unmarked_set xs i (by omega) h; omega
      · rfl
    have c1 := ho.but
    have c2 := ho.out
    have c3 : W.cell? ⟨B + 1 + 1, i, none⟩ = some (.bool true) := by rw [ho.row.cellAt i (by omega)]; rw [← hm]; simp [hl, hi]
    have HV := Lib.hid (Vis.idle (es := nat es) (but := but) (S := S) (i := i) (xs := xs) (.inr hm))
    clear hm
    go_enter Tryd.func22, Tryd.ntmps22
    go_wp2_with fail
    all_goals
      (try simp only [Exit.inBlock, Exit.then]); refine bodyPost_ret (results_none rfl _ _ _) rfl ?_
      exact ⟨rfl, xs, HV.out, ho, World.grownBy.refl _ _⟩
  | succ f ih =>
    intro i xs S W hi hl hc ho
    have IH := Lib.hid ih; clear ih
    have c1 := ho.but
    have c2 := ho.out
    have c3 : W.cell? ⟨B + 1 + 1, i, none⟩ = some (.bool (xs.getD i false)) := by rw [ho.row.cellAt i (by omega)]; simp [hl, hi]
    by_cases hb : (i : Int) = but
    · have HV := Lib.hid (Vis.idle (es := nat es) (but := but) (S := S) (i := i) (xs := xs) (.inl hb))
      have hb' : ((i : Int) == but) = true := by simp [hb]
      clear hb
      go_enter Tryd.func22, Tryd.ntmps22
      go_wp2_with fail
      (try simp only [Exit.inBlock, Exit.then]); refine bodyPost_ret (results_none rfl _ _ _) rfl ?_
      exact ⟨rfl, xs, HV.out, ho, World.grownBy.refl _ _⟩
    · have hb' : ((i : Int) == but) = false := by simpa using hb
      have HB := Lib.hid hb; clear hb
      cases hm : xs.getD i false
      · rw [hm] at c3
        have hf := ho.row.frozenAt i
        have hu := unmarked_set xs i (by omega) hm
        have hst := ho.row.stored i (.bool true)
        have HO1 := Lib.hid (ho.grown (ys := xs.set i true) hst.2 (by rw [List.map_set]; exact hst.1))
        have HG1 := Lib.hid hst.2
        have HM1 := Lib.hid (Mid.start (es := nat es) (but := but) (S := S) (i := i) (xs := xs) (by omega))
        clear hst hm
        have c4 := HO1.out.l
        go_enter Tryd.func22, Tryd.ntmps22
        go_wp2_with fail
        go_loopw [22] (fun t wr => ∃ (k : Nat) (ys : List Bool), t = .int .i64 k ∧ k ≤ es.length ∧ Mid (nat es) but S i k xs ys ∧ VOwn es lo lc but B n ys wr ∧ W.grownBy wr (some (B + 1 + 1)) ∧ unmarked ys ≤ f) (fun t _ => es.length - (intOf t).toNat)
        case atStart => exact ⟨0, _, rfl, by omega, HM1.out, HO1.out, HG1.out, by omega⟩
        case round =>
          obtain ⟨k, ys, rfl, hk, hmid, hov, hgr, huf⟩ := hrel
          have HMID := Lib.hid hmid; clear hmid
          clear c1 c2 c3 hf c4
          by_cases hlt : k < es.length
          · obtain ⟨b, o, rfl, hc1, hc2⟩ := hov.edges k hlt
            have hmem : es.getD k (0, 0) ∈ es := by simp [hlt]
            obtain ⟨q1, q2, q3, q4⟩ := hes _ hmem
            have hnat : (nat es)[k]? = some ((es.getD k (0, 0)).1.toNat, (es.getD k (0, 0)).2.toNat) := by simp [nat, hlt]
            obtain ⟨x, hx⟩ : ∃ x, x = (es.getD k (0, 0)).1 := ⟨_, rfl⟩
            obtain ⟨y, hy⟩ : ∃ y, y = (es.getD k (0, 0)).2 := ⟨_, rfl⟩
            rw [← hx] at hc1 hnat q1 q2
            rw [← hy] at hc2 hnat q3 q4
            clear hx hy hmem
            obtain ⟨a, rfl⟩ := Int.eq_ofNat_of_zero_le q1
            obtain ⟨d, rfl⟩ := Int.eq_ofNat_of_zero_le q3
            simp only [Int.toNat_natCast] at hnat
            have HN := Lib.hid hnat; clear hnat q1 q3
            have hov2 := hov.grown (World.grownBy_alloc wr (.cells #[.int .i64 a, .int .i64 d] 35) _) (hov.row.alloc _)
            have hgr2 := grownBy_trans hgr (World.grownBy_alloc wr (.cells #[.int .i64 a, .int .i64 d] 35) (some (B + 1 + 1)))
            have hv2 := hov2.visit
            have HOV2 := Lib.hid hov2
            by_cases hai : a = i
            · have hai' : ((a : Int) == (i : Int)) = true := by simp [hai]
              have HAI := Lib.hid hai; clear hai
              go_wp2_with fail
              refine (IH.out d ys (fun u => S u ∨ u = i) _ (by omega) (HMID.out.len.trans hl) huf HOV2.out).mono ?_
              rintro e w2 ⟨rfl, zs, hvis, hov3, hg3⟩
              have hmid2 := HMID.out.visit (by rw [← HAI.out]; exact HN.out) hvis
              have hgr3 := grownBy_trans hgr2 hg3
              have hle := unmarked_le ys zs hvis.len hvis.keep
              clear hv2 hvis hg3 hov
              go_wp2_with fail
              go_roundw
              case rel => exact ⟨k + 1, zs, by go_num, by omega, hmid2, hov3, hgr3, by omega⟩
              case measure => simp [intOf]; omega
            · have hai' : ((a : Int) == (i : Int)) = false := by rw [beq_eq_false_iff_ne]; omega
              have hmid2 := HMID.out.skip HN.out hai
              have HAI := Lib.hid hai; clear hai
              go_wp2_with fail
              go_roundw
              case rel => exact ⟨k + 1, ys, by go_num, by omega, hmid2, HOV2.out, hgr2, huf⟩
              case measure => simp [intOf]; omega
          · have hkl : k = (nat es).length := by simp [nat]; omega
            have hfin := HMID.out
            rw [hkl] at hfin
            have HF := Lib.hid (hfin.fin HB.out)
            clear hkl hfin
            go_wp2_with fail
            go_end0
            exact ⟨rfl, ys, HF.out, hov, hgr⟩
      · have HV := Lib.hid (Vis.idle (es := nat es) (but := but) (S := S) (i := i) (xs := xs) (.inr hm))
        rw [hm] at c3
        clear hm
        go_enter Tryd.func22, Tryd.ntmps22
        go_wp2_with fail
        (try simp only [Exit.inBlock, Exit.then]); refine bodyPost_ret (results_none rfl _ _ _) rfl ?_
        exact ⟨rfl, xs, HV.out, ho, World.grownBy.refl _ _⟩
end Go.Proofs.YtobhclmibmpffaaDoor
