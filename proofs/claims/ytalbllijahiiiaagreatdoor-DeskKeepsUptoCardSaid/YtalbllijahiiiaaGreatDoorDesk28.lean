/- slices.IndexFunc at tapes: the first one that fails. -/
import Derived.Test.YtalbllijahiiiaaGreatDoorDesk27
namespace Go.Proofs.YtalbllijahiiiaaGreatDoor
open Go.RowKit Go.Mine Go.Mine.Desk

def firstAt (f : List Int → Bool) (rows : List (List Int)) : Int := match rows.findIdx? f with
  | some i => (i : Int)
  | none => -1
theorem firstAt_hit {f : List Int → Bool} {rows : List (List Int)} {k : Nat} (hk : k < rows.length) (h0 : ∀ j, j < k → f (rows.getD j []) = false) (h1 : f (rows.getD k []) = true) : firstAt f rows = (k : Int) := by
  have : rows.findIdx? f = some k := by
    rw [List.findIdx?_eq_some_iff_getElem]
    refine ⟨hk, by simpa [hk] using h1, fun j hj => ?_⟩
    have := h0 j hj
    simpa [show j < rows.length by omega] using this
  rw [firstAt, this]
theorem firstAt_none {f : List Int → Bool} {rows : List (List Int)} (h0 : ∀ j, j < rows.length → f (rows.getD j []) = false) : firstAt f rows = -1 := by
  have : rows.findIdx? f = none := by
    rw [List.findIdx?_eq_none_iff]
    intro x hx
    obtain ⟨j, hj, rfl⟩ := List.getElem_of_mem hx
    have := h0 j hj
    simpa [hj] using this
  rw [firstAt, this]
theorem walk1_enters (args : Array Value) (w : World) : Sem.run Tryz.prog (callFunc 150 args) w = .ok (.enter 150 args) w := by kernel_rfl
set_option maxRecDepth 100000 in
set_option maxHeartbeats 1000000 in
theorem index_any (g : G) (v : Value) (hr : g.right) (n : Int) (eb gB eB : Nat) (gk ga gb : Int) (gao : Option Addr) (gn gc : Nat) (hsh : v = .agg #[.int .i64 gk, .int .i64 ga, .int .i64 gb, .slice gao gn gc]) (base : Nat) (uo : Option Addr) (uc : Nat) (rows : List (List Int)) (hl : rows.length ≤ 1000000) (w : World) (hg : Gl w) (he : ExprAt w eb n) (hv : GenAt w v g)
    (kg : Blk w gB 28 #[.int .i64 gk, .int .i64 ga, .int .i64 gb, .slice gao gn gc]) (ke : Blk w eB 41 #[.int .i64 7, .int .i64 0, .slice (some ⟨eb, 0, none⟩) 2 2]) (hgr : GridOwn w base (.slice uo rows.length uc) rows) :
    Calls Tryz.prog 149 #[.slice uo rows.length uc, .func (.func 150) #[] #[.pointer (some ⟨gB, 0, none⟩), .pointer (some ⟨eB, 0, none⟩)]] w fun e w' => e = .returned (.int .i64 (firstAt (bad g n) rows)) ∧ Below w.heap.size w w' := by
  obtain ⟨vs, hv1, hv2⟩ := hgr
  have HH := Lib.hid (And.intro hv1 (And.intro hv2 (And.intro hg (And.intro he (And.intro hv (And.intro kg ke))))))
  have hent := walk1_enters
  obtain ⟨m, hm⟩ : ∃ m, rows.length = m := ⟨_, rfl⟩
  obtain ⟨w2, hw2⟩ : ∃ w2, w2 = w := ⟨_, rfl⟩
  have HW2 := Lib.hid hw2
  rw [hm] at HH hl ⊢
  rw [← hw2]
  clear hv1 hv2 hg he hv kg ke hw2
  go_enter Tryz.func149, Tryz.ntmps149
  go_wp2_with fail
  go_loopw [5, 8] (fun _ kv wr => ∃ k : Nat, kv = .int .i64 (k : Int) ∧ k ≤ m ∧ RowKit.Hid (Below w2.heap.size w2 wr ∧ ∀ j, j < k → bad g n (rows.getD j []) = false)) (fun _ kv _ => m - (intOf kv).toNat)
  case atStart => exact ⟨0, rfl, by omega, Lib.hid ⟨Below.refl _ _, fun j hj => by omega⟩⟩
  case round =>
    obtain ⟨k, rfl, hk, HK⟩ := hrel
    have hbw : Below w.heap.size w wr := by rw [← HW2.out]; exact HK.out.1
    rcases Nat.lt_or_ge k m with hkm | hkm
    · obtain ⟨vj, hvj, hoj⟩ := HH.out.2.1 k (by omega)
      obtain ⟨jo, jc, rfl⟩ := owns_shape hoj
      obtain ⟨t, ht⟩ : ∃ t, rows.getD k [] = t := ⟨_, rfl⟩
      rw [ht] at hvj hoj
      rcases id HH.out.1.2 with ⟨_, h0⟩ | ⟨q, cap, cur, h1, hq1, hq2, _⟩
      · omega
      · simp only [Value.slice.injEq] at h1
        obtain ⟨rfl, _, rfl⟩ := h1
        have hcell := HH.out.1.cellAt k (by omega)
        rw [hvj] at hcell
        have hcj : wr.cell? ⟨q, k, none⟩ = some (.slice jo t.length jc) := (hbw.cell (p := ⟨q, k, none⟩) (Array.getElem?_eq_some_iff.1 hq2).1).trans hcell
        have hjat := (IntsAt.of_owns hoj).below (Nat.le_refl _) hbw
        have HC := Lib.hid (walk1_any g v hr n eb gB eB t jo t.length jc rfl (owns_len hoj) gk ga gb gao gn gc hsh wr (HH.out.2.2.1.on hbw) ((show Blk w eb _ _ from HH.out.2.2.2.1).below hbw) (HH.out.2.2.2.2.1.on hbw) hjat (HH.out.2.2.2.2.2.1.below hbw) (HH.out.2.2.2.2.2.2.below hbw))
        have hi0 : (0 : Int) ≤ (k : Int) := by omega
        have hi1 : (k : Int) < (m : Int) := by omega
        have hw1 : IntKind.i64.wrap ((k : Int) + 1) = ((k + 1 : Nat) : Int) := by rw [IntWalk.i64_in _ (by omega)]; omega
        have HT := Lib.hid ht
        clear hvj hoj hcell hjat hq1 hq2 ht
        cases hb : bad g n t with
        | true =>
          rw [hb] at HC
          have HF := Lib.hid (firstAt_hit (by omega) HK.out.2 (by rw [HT.out]; exact hb))
          clear hb
          go_wp2_with fail
          refine HC.out.mono ?_
          rintro e w3 ⟨rfl, hb3⟩
          have HB3 := Lib.hid (show Below w2.heap.size w2 w3 from HK.out.1.trans (hb3.mono HK.out.1.size))
          clear hb3
          go_wp2_with fail
          go_ret
          exact ⟨by rw [HF.out]; rfl, HB3.out⟩
        | false =>
          rw [hb] at HC
          have HF := Lib.hid (show ∀ j, j < k + 1 → bad g n (rows.getD j []) = false from fun j hj => by
            rcases Nat.lt_or_ge j k with h | h
            · exact HK.out.2 j h
            · obtain rfl : j = k := by omega
              rw [HT.out]; exact hb)
          clear hb
          go_wp2_with fail
          refine HC.out.mono ?_
          rintro e w3 ⟨rfl, hb3⟩
          have HB3 := Lib.hid (show Below w2.heap.size w2 w3 from HK.out.1.trans (hb3.mono HK.out.1.size))
          clear hb3
          go_wp2_with fail
          go_roundw
          case rel => exact ⟨k + 1, by go_num, by omega, Lib.hid ⟨HB3.out, HF.out⟩⟩
          case measure => simp [intOf]; omega
    · obtain rfl : k = m := by omega
      have HF := Lib.hid (firstAt_none (f := bad g n) (rows := rows) (fun j hj => HK.out.2 j (by omega)))
      clear hbw
      go_wp2_with fail
      go_ret
      exact ⟨by rw [HF.out]; rfl, HK.out.1⟩
end Go.Proofs.YtalbllijahiiiaaGreatDoor
