/- path.made. No conditions. -/
import Derived.Test.YtppbaiilhaagdaaPath2
import Derived.Deep.AppendLies
namespace Go.Proofs.Ytppbaiilhaagdaa
open Go.RowKit Go.Mine Go.Mine.Path Go.Mine.Flow Go.Deep

theorem infoBool : (Try.prog.info? 4).map (fun i => (i.zero, i.size, i.bytes)) = some (some (.bool false), 1, 1) := by kernel_rfl
/-- The graph as it is told. -/
def GraphAt (es : List (Nat × Nat)) (n gs : Nat) (w : World) : Prop :=
  ∃ bn bp, w.cell? ⟨gs, 0, none⟩ = some (.slice (some ⟨bn, 0, none⟩) n n) ∧ w.cell? ⟨gs, 1, none⟩ = some (.slice (some ⟨bp, 0, none⟩) n n) ∧
    (∀ i, i < n → ∃ ro rc, w.cell? ⟨bn, i, none⟩ = some (.slice ro (sc es n i).length rc) ∧ IntsAt .i64 w ro (sc es n i)) ∧ (∀ i, i < n → w.cell? ⟨bp, i, none⟩ = some (.int .i64 (np es n i : Nat)))
theorem GraphAt.below {es : List (Nat × Nat)} {n gs : Nat} {w w' : World} (h : GraphAt es n gs w) (hb : Below w.heap.size w w') : GraphAt es n gs w' := by
  obtain ⟨bn, bp, h1, h2, h3, h4⟩ := h
  refine ⟨bn, bp, cell_call h1 hb, cell_call h2 hb, fun i hi => ?_, fun i hi => cell_call (h4 i hi) hb⟩
  obtain ⟨ro, rc, k1, k2⟩ := h3 i hi
  exact ⟨ro, rc, cell_call k1 hb, k2.below (Nat.le_refl _) hb⟩
/-- What made answers. -/
def MPost (es : List (Nat × Nat)) (n : Nat) (W : World) (e : Ending) (w' : World) : Prop :=
  Below W.heap.size W w' ∧ ((¬ Acy es ∧ e = .returned (.pointer none)) ∨ (Acy es ∧ ∃ gs, e = .returned (.pointer (some ⟨gs, 0, none⟩)) ∧ GraphAt es n gs w'))
theorem raw_step {es : List (Nat × Nat)} {q a b : Nat} (h : es[q]? = some (a, b)) : (fun i => rawR (es.take (q + 1)) i) = upd (fun i => rawR (es.take q) i) a (rawR (es.take q) a ++ [(b : Int)]) := by
  obtain ⟨hq, he⟩ := List.getElem?_eq_some_iff.1 h
  funext i
  rw [List.take_succ_eq_append_getElem hq, he]
  unfold rawR
  rw [List.filter_append, List.map_append]
  by_cases e : i = a
  · subst e; rw [upd_same]; simp
  · rw [upd_ne _ _ e]
    have : decide (a = i) = false := by simp; omega
    simp [this]
theorem unv_n (n : Nat) (op : Nat → Bool) (ps : Nat → Int) : unv n op ps ≤ n := by
  unfold unv
  have := List.length_filter_le (fun j => !op j && decide (ps j < 0)) (List.range n)
  simpa using this

set_option maxHeartbeats 2000000 in
set_option maxRecDepth 100000 in
theorem made_any (n : Nat) (es : List (Int × Int)) (lo : Option Addr) (lc : Nat) (W : World) (hx : PairsAt W lo es) (hok : ok n es) (hnd : (natE es).Nodup) :
    Calls Try.prog 18 #[.int .i64 n, .slice lo es.length lc] W fun e w' => MPost (natE es) n W e w' := by
  obtain ⟨i0, hi0, hz0, hz1, hz2⟩ := info_parts infoI3
  have hn1 : 1 ≤ n := by have := hok.1; omega
  have hn2 : n ≤ 12 := by have := hok.2.1; omega
  have HOK := Lib.hid hok
  have HX := Lib.hid hx
  have HND := Lib.hid hnd
  have hmk := run_make_row' (P := Try.prog) 45 27 (.slice none 0 0) 24 Try.underlying45 infoRow rfl .i64 .i64 n (by omega) (by omega)
  clear hok hx hnd
  obtain ⟨w1, hw1⟩ : ∃ w1, w1 = W.alloc (.cells #[.int .i64 n] 3) := ⟨_, rfl⟩
  have hc1 : w1.cell? ⟨W.heap.size, 0, none⟩ = some (.int .i64 n) := by rw [hw1, cell_of_row _ _ 0 _ _ _ (heap_alloc_new W (.cells #[.int .i64 n] 3))]; rfl
  have hs1 : w1.heap.size = W.heap.size + 1 := by rw [hw1]; simp
  have hb1 : Below W.heap.size W w1 := by rw [hw1]; exact (Below.refl _ _).alloc (Nat.le_refl _) _
  have hw1' := hw1.symm
  have HB1 := Lib.hid hb1
  have HS1 := Lib.hid hs1
  have hlt1 : W.heap.size < w1.heap.size := by omega
  clear hw1 hb1 hs1
  go_enter Try.func18, Try.ntmps18
  go_wp2_with fail
  clear hw1'
  have hne1 := World.new_ne w1 ⟨W.heap.size, 0, none⟩ hc1
  go_upto_region 1 with fail
  go_cut [5] from 11 to 17 (fun gv wx => ∃ gb gs bn bp, gv = .pointer (some ⟨gb, 0, none⟩) ∧ RowKit.Hid (Laid1 n W.heap.size w1.heap.size gb gs bn bp wx) ∧ RowKit.Hid (Below w1.heap.size w1 wx))
  case first =>
    go_region_held3 (fun w' => w'.cell? ⟨W.heap.size, 0, none⟩ = some (.int .i64 n)) (repeat (first | assumption | refine keep_drew ?_ | refine keep_alloc ?_ _ | refine keep_set ?_ (by simp; omega)))
      (first | (go_at_call 21; refine (repeat_any (-1) n _ _ hn2 (by simp [go_sem])).mono ?_; rintro e w2 ⟨rfl, ho2, hb2⟩; have hc2 : w2.cell? ⟨W.heap.size, 0, none⟩ = some (.int .i64 n) := (by rw [hb2.cell (by simp; omega)]; repeat (first | assumption | refine keep_drew ?_ | refine keep_alloc ?_ _ | refine keep_set ?_ (by simp; omega))); have hne2 := World.new_ne w2 ⟨W.heap.size, 0, none⟩ hc2; obtain ⟨hbc, hbf⟩ := bcells hb2; have hrp2 := rowIs_rep ho2; have hbl2 := hrp2.lt; simp at hbl2; have hsz2 := hb2.size; simp at hsz2; have hA0 : w1.heap.size < w2.heap.size := (by omega); (try (have hA1 : w1.heap.size + 1 < w2.heap.size := (by omega))); (try (have hA2 : w1.heap.size + 1 + 1 < w2.heap.size := (by omega)))))
    all_goals
      go_wp2_with fail
      go_meet
      apply laid1_mk
      · repeat (first | (with_reducible assumption) | (with_reducible exact at_one _ _ _ _ (by simp)) | (with_reducible exact at_fst _ _ _ _ _ (by simp)) | (with_reducible exact at_snd _ _ _ _ _ (by simp)) | (with_reducible refine keep_drew ?_) | (with_reducible refine at_set (u := .pointer none) ?_) | (with_reducible refine keep_alloc ?_ _) | (with_reducible refine keep_set ?_ (by first | (simp; done) | (simp; omega))) | (with_reducible refine cell_call ?_ hb2))
      · repeat (first | (with_reducible assumption) | (with_reducible exact at_one _ _ _ _ (by simp)) | (with_reducible exact at_fst _ _ _ _ _ (by simp)) | (with_reducible exact at_snd _ _ _ _ _ (by simp)) | (with_reducible refine keep_drew ?_) | (with_reducible refine at_set (u := .pointer none) ?_) | (with_reducible refine keep_alloc ?_ _) | (with_reducible refine keep_set ?_ (by first | (simp; done) | (simp; omega))) | (with_reducible refine cell_call ?_ hb2))
      · repeat (first | (with_reducible assumption) | (with_reducible exact at_one _ _ _ _ (by simp)) | (with_reducible exact at_fst _ _ _ _ _ (by simp)) | (with_reducible exact at_snd _ _ _ _ _ (by simp)) | (with_reducible refine keep_drew ?_) | (with_reducible refine at_set (u := .pointer none) ?_) | (with_reducible refine keep_alloc ?_ _) | (with_reducible refine keep_set ?_ (by first | (simp; done) | (simp; omega))) | (with_reducible refine cell_call ?_ hb2))
      · repeat (first | (with_reducible assumption) | (with_reducible exact at_one _ _ _ _ (by simp)) | (with_reducible exact at_fst _ _ _ _ _ (by simp)) | (with_reducible exact at_snd _ _ _ _ _ (by simp)) | (with_reducible refine keep_drew ?_) | (with_reducible refine at_set (u := .pointer none) ?_) | (with_reducible refine keep_alloc ?_ _) | (with_reducible refine keep_set ?_ (by first | (simp; done) | (simp; omega))) | (with_reducible refine cell_call ?_ hb2))
      · repeat (first | (with_reducible exact rowIs_eq hrp2 (by simp)) | (with_reducible exact made_at _ _ _ _ _ (by simp)) | (with_reducible refine World.rowIs.drew ?_) | (with_reducible refine World.rowIs.alloc ?_ _) | (with_reducible refine World.rowIs.setOther ?_ (by first | (simp; done) | (simp; omega)) _) | (with_reducible refine rowIs_call ?_ hb2))
      · repeat (first | (with_reducible exact rowIs_eq hrp2 (by simp)) | (with_reducible exact made_at _ _ _ _ _ (by simp)) | (with_reducible refine World.rowIs.drew ?_) | (with_reducible refine World.rowIs.alloc ?_ _) | (with_reducible refine World.rowIs.setOther ?_ (by first | (simp; done) | (simp; omega)) _) | (with_reducible refine rowIs_call ?_ hb2))
      · repeat (first | (with_reducible exact Below.refl _ _) | (with_reducible refine below_al ?_ _) | (with_reducible refine Below.drew ?_) | (with_reducible refine Below.setCell ?_ (by first | (simp; done) | (simp; omega)) _) | (with_reducible refine below_call ?_ hb2))
      · simp only [ne_eq]; omega
  case rest =>
    obtain ⟨gb, gs, bn, bp, rfl, hl, hb⟩ := hcut
    obtain ⟨w2, hw2⟩ : ∃ w2, w2 = wc := ⟨_, rfl⟩
    subst hw2
    have hbn : w1.heap.size ≤ bn := hl.out.2.2.2.2.2.2.2.2.2.2.1
    have hbp : w1.heap.size ≤ bp := hl.out.2.2.2.2.2.2.2.2.2.2.2
    have HMG := Lib.hid (MG.start hl.out hlt1)
    have HDI := Lib.hid (show W.heap.size ≠ bp ∧ gb ≠ bp ∧ gs ≠ bp ∧ bn ≠ bp from ⟨by omega, hl.out.2.2.2.2.2.2.2.1.1, hl.out.2.2.2.2.2.2.2.1.2.1, hl.out.2.2.2.2.2.2.2.1.2.2.1⟩)
    have HB2 := Lib.hid hb.out
    have hs2 := hb.out.size
    have hel : es.length ≤ 30 := HOK.out.2.2.1
    clear hl hb hc1 hne1 hmk
    go_wp2_with fail
    go_loopw [20] (fun qv wr => ∃ (q : Nat) (nv : Nat → Value), qv = .int .i64 (q : Int) ∧ q ≤ es.length ∧ RowKit.Hid (MG n W.heap.size gb gs bn bp w2.heap.size nv (fun i => rawR ((natE es).take q) i) wr) ∧ RowKit.Hid (Below w1.heap.size w1 wr) ∧ w2.heap.size ≤ wr.heap.size) (fun qv _ => es.length - (intOf qv).toNat)
    case atStart => exact ⟨0, _, rfl, by omega, HMG, HB2, Nat.le_refl _⟩
    clear HMG HB2
    case round =>
      obtain ⟨q, nv, rfl, hq, hmg, hbel, hsz⟩ := hrel
      have HM := Lib.hid hmg.out
      have HBE := Lib.hid hbel.out
      clear hmg hbel
      by_cases hlt : q < es.length
      · obtain ⟨eb, eo, rfl, hce1, hce2⟩ := (HX.out.below (Nat.le_refl _) (HB1.out.trans (HBE.out.mono HB1.out.size))) q hlt
        have hmem : es.getD q (0, 0) ∈ es := by simp [hlt]
        obtain ⟨q1, q2, q3, q4⟩ := HOK.out.2.2.2 _ hmem
        have hnat : (natE es)[q]? = some ((es.getD q (0, 0)).1.toNat, (es.getD q (0, 0)).2.toNat) := by simp [natE, hlt]
        obtain ⟨x, hx⟩ : ∃ x, x = (es.getD q (0, 0)).1 := ⟨_, rfl⟩
        obtain ⟨y, hy⟩ : ∃ y, y = (es.getD q (0, 0)).2 := ⟨_, rfl⟩
        rw [← hx] at hce1 hnat q1 q2
        rw [← hy] at hce2 hnat q3 q4
        clear hx hy hmem
        obtain ⟨a, rfl⟩ := Int.eq_ofNat_of_zero_le q1
        obtain ⟨b, rfl⟩ := Int.eq_ofNat_of_zero_le q3
        simp only [Int.toNat_natCast] at hnat
        have han : a < n := by omega
        have HRS := Lib.hid (raw_step hnat)
        have hrl : (rawR ((natE es).take q) a).length ≤ 30 := by
          have h1 := raw_len ((natE es).take q) a
          have h2 : ((natE es).take q).length ≤ es.length := by simp [natE]; omega
          omega
        have HM1 := Lib.hid (HM.out.alloc (.cells #[.int .i64 (a : Int), .int .i64 (b : Int)] 32))
        obtain ⟨wr1, hwr1⟩ : ∃ wr1, wr1 = wr.alloc (.cells #[.int .i64 (a : Int), .int .i64 (b : Int)] 32) := ⟨_, rfl⟩
        have hwr1' := hwr1.symm
        have k0 : wr1.cell? ⟨wr.heap.size, 0, none⟩ = some (.int .i64 (a : Int)) := by rw [hwr1]; exact at_fst _ _ _ _ _ rfl
        have k1 : wr1.cell? ⟨wr.heap.size, 1, none⟩ = some (.int .i64 (b : Int)) := by rw [hwr1]; exact at_snd _ _ _ _ _ rfl
        have HB3 := Lib.hid (show Below w1.heap.size w1 wr1 by rw [hwr1]; exact below_al HBE.out _)
        rw [← hwr1] at HM1
        have k2 := HM1.out.cgb
        have k3 := HM1.out.g0
        have k4 := HM1.out.next.cell han
        have k5 := HM1.out.next.frozen a
        have hs3 : wr1.heap.size = wr.heap.size + 1 := by rw [hwr1]; simp
        have HS3 := Lib.hid hs3
        have hsl : wr.heap.size < wr1.heap.size := by omega
        have hown := HM1.out.row a han
        obtain ⟨va, hva⟩ : ∃ va, va = nv a := ⟨_, rfl⟩
        obtain ⟨rl, hrle⟩ : ∃ rl, rl = (rawR ((natE es).take q) a).length := ⟨_, rfl⟩
        rw [← hva] at k4 hown
        rw [← hrle] at hrl hown
        have HVA := Lib.hid hva
        have HRL := Lib.hid hrle
        have hvlt : ∀ k, va.ownBlock = some k → k < wr.heap.size := fun k hk => ((HM.out.row a han).lt k (by rw [← hva]; exact hk)).2
        clear hnat hwr1 q1 q3 hs3 hva hrle HM
        go_wp2_with fail
        clear hwr1' hce1 hce2
        have hlow := HM1.out.low
        have hfar := HM1.out.far
        have hgbL := hlow.2.1
        have hgsL := hlow.2.2.1
        have hbnL := hlow.2.2.2.1
        have n1 : ∀ k, k < w2.heap.size → some k ≠ va.ownBlock := fun k hk e => by have := (hown.lt k e.symm).1; omega
        have n2 : some wr.heap.size ≠ va.ownBlock := fun e => by have := hvlt _ e.symm; omega
        have m1 : bn ≠ gb := fun e => hfar.2.1 e.symm
        have m2 : bn ≠ gs := fun e => hfar.2.2.1 e.symm
        have m3 : bn ≠ wr.heap.size := by omega
        clear hlow hfar
        refine wp_region_held_drew (S := (fun w' => w'.cell? ⟨gb, 0, none⟩ = some (.pointer (some ⟨gs, 0, none⟩)) ∧ w'.cell? ⟨gs, 0, none⟩ = some (.slice (some ⟨bn, 0, none⟩) n n) ∧ w'.cell? ⟨wr.heap.size, 0, none⟩ = some (.int .i64 (a : Int)) ∧ w'.cell? ⟨wr.heap.size, 1, none⟩ = some (.int .i64 (b : Int)))) (by kernel_rfl) ?hS0 (fun hHeld => ?_)
        case hS0 =>
          exact ⟨by assumption, by assumption, by assumption, by assumption⟩
        refine wpAnyH_take (i := 0) (v := ?vv0) rfl (by kernel_rfl) (by kernel_rfl) (by kernel_rfl) (fun _ _ _ h => h) (Or.inl ⟨by rfl, ?hy0⟩) (by assumption) ?rest0
        case hy0 => ((intro w hSw; (try dsimp only at hSw); go_simp) <;> with_reducible rfl)
        try simp only [List.getElem_toArray, List.getElem_cons_succ, List.getElem_cons_zero, Act.put, List.setIfInBounds_toArray, List.set_cons_zero, List.set_cons_succ]
        refine wpAnyH_take (i := 1) (v := ?vv1) rfl (by kernel_rfl) (by kernel_rfl) (by kernel_rfl) (fun _ _ _ h => h) (Or.inl ⟨by rfl, ?hy1⟩) (by assumption) ?rest1
        case hy1 => ((intro w hSw; (try dsimp only at hSw); go_simp) <;> with_reducible rfl)
        try simp only [List.getElem_toArray, List.getElem_cons_succ, List.getElem_cons_zero, Act.put, List.setIfInBounds_toArray, List.set_cons_zero, List.set_cons_succ]
        refine wpAnyH_take (i := 2) (v := ?vv2) rfl (by kernel_rfl) (by kernel_rfl) (by kernel_rfl) (fun _ _ _ h => h) (Or.inl ⟨by rfl, ?hy2⟩) (by assumption) ?rest2
        case hy2 => ((intro w hSw; (try dsimp only at hSw); go_simp) <;> with_reducible rfl)
        try simp only [List.getElem_toArray, List.getElem_cons_succ, List.getElem_cons_zero, Act.put, List.setIfInBounds_toArray, List.set_cons_zero, List.set_cons_succ]
        refine wpAnyH_take (i := 3) (v := ?vv3) rfl (by kernel_rfl) (by kernel_rfl) (by kernel_rfl) (fun _ _ _ h => h) (Or.inl ⟨by rfl, ?hy3⟩) (by assumption) ?rest3
        case hy3 => ((intro w hSw; (try dsimp only at hSw); go_simp) <;> with_reducible rfl)
        try simp only [List.getElem_toArray, List.getElem_cons_succ, List.getElem_cons_zero, Act.put, List.setIfInBounds_toArray, List.set_cons_zero, List.set_cons_succ]
        refine wpAnyH_take (i := 4) (v := ?vv4) rfl (by kernel_rfl) (by kernel_rfl) (by kernel_rfl) (fun _ _ _ h => h) (Or.inl ⟨by rfl, ?hy4⟩) (by assumption) ?rest4
        case hy4 => ((intro w hSw; (try dsimp only at hSw); go_simp) <;> with_reducible rfl)
        try simp only [List.getElem_toArray, List.getElem_cons_succ, List.getElem_cons_zero, Act.put, List.setIfInBounds_toArray, List.set_cons_zero, List.set_cons_succ]
        refine wpAnyH_take (i := 5) (v := ?vv5) rfl (by kernel_rfl) (by kernel_rfl) (by kernel_rfl) (fun _ _ _ h => h) (Or.inl ⟨by rfl, ?hy5⟩) (by assumption) ?rest5
        case hy5 => ((intro w hSw; (try dsimp only at hSw); go_simp) <;> with_reducible rfl)
        try simp only [List.getElem_toArray, List.getElem_cons_succ, List.getElem_cons_zero, Act.put, List.setIfInBounds_toArray, List.set_cons_zero, List.set_cons_succ]
        refine wpAnyH_take (i := 6) (v := ?vv6) rfl (by kernel_rfl) (by kernel_rfl) (by kernel_rfl) (fun _ _ _ h => h) (Or.inl ⟨by rfl, ?hy6⟩) (by assumption) ?rest6
        case hy6 => ((intro w hSw; (try dsimp only at hSw); go_simp) <;> with_reducible rfl)
        try simp only [List.getElem_toArray, List.getElem_cons_succ, List.getElem_cons_zero, Act.put, List.setIfInBounds_toArray, List.set_cons_zero, List.set_cons_succ]
        refine wpAnyH_take (i := 7) (v := ?vv7) rfl (by kernel_rfl) (by kernel_rfl) (by kernel_rfl) (fun _ _ _ h => h) (Or.inl ⟨by rfl, ?hy7⟩) (by assumption) ?rest7
        case hy7 => ((intro w hSw; (try dsimp only at hSw); go_simp) <;> with_reducible rfl)
        try simp only [List.getElem_toArray, List.getElem_cons_succ, List.getElem_cons_zero, Act.put, List.setIfInBounds_toArray, List.set_cons_zero, List.set_cons_succ]
        refine wpAnyH_take (i := 8) (v := ?vv8) rfl (by kernel_rfl) (by kernel_rfl) (by kernel_rfl) (fun _ _ _ h => h) (Or.inl ⟨by rfl, ?hy8⟩) (by assumption) ?rest8
        case hy8 => ((intro w hSw; (try dsimp only at hSw); go_simp) <;> with_reducible rfl)
        try simp only [List.getElem_toArray, List.getElem_cons_succ, List.getElem_cons_zero, Act.put, List.setIfInBounds_toArray, List.set_cons_zero, List.set_cons_succ]
        refine wpAnyH_take (i := 9) (v := ?vv9) rfl (by kernel_rfl) (by kernel_rfl) (by kernel_rfl) (fun _ _ _ h => h) (Or.inl ⟨by rfl, ?hy9⟩) (by assumption) ?rest9
        case hy9 => ((intro w hSw; (try dsimp only at hSw); go_simp) <;> with_reducible rfl)
        try simp only [List.getElem_toArray, List.getElem_cons_succ, List.getElem_cons_zero, Act.put, List.setIfInBounds_toArray, List.set_cons_zero, List.set_cons_succ]
        refine wpAnyH_take (i := 10) (v := ?vv10) rfl (by kernel_rfl) (by kernel_rfl) (by kernel_rfl) (fun _ _ _ h => h) (Or.inl ⟨by rfl, ?hy10⟩) (by assumption) ?rest10
        case hy10 => ((intro w hSw; (try dsimp only at hSw); go_simp) <;> with_reducible rfl)
        try simp only [List.getElem_toArray, List.getElem_cons_succ, List.getElem_cons_zero, Act.put, List.setIfInBounds_toArray, List.set_cons_zero, List.set_cons_succ]
        refine wpAnyH_take (i := 11) (v := ?vv11) rfl (by kernel_rfl) (by kernel_rfl) (by kernel_rfl) (fun _ _ _ h => h) (Or.inl ⟨by rfl, ?hy11⟩) (by assumption) ?rest11
        case hy11 => ((intro w hSw; (try dsimp only at hSw); go_simp) <;> with_reducible rfl)
        try simp only [List.getElem_toArray, List.getElem_cons_succ, List.getElem_cons_zero, Act.put, List.setIfInBounds_toArray, List.set_cons_zero, List.set_cons_succ]
        refine wpAnyH_take (i := 12) (v := ?vv12) rfl (by kernel_rfl) (by kernel_rfl) (by kernel_rfl) (fun _ _ _ h => h) (Or.inl ⟨by rfl, ?hy12⟩) (by assumption) ?rest12
        case hy12 => ((intro w hSw; (try dsimp only at hSw); go_simp) <;> with_reducible rfl)
        try simp only [List.getElem_toArray, List.getElem_cons_succ, List.getElem_cons_zero, Act.put, List.setIfInBounds_toArray, List.set_cons_zero, List.set_cons_succ]
        refine wpAnyH_take (i := 14) (v := ?vv14) rfl (by kernel_rfl) (by kernel_rfl) (by kernel_rfl) (fun _ _ _ h => h) (Or.inl ⟨by rfl, ?hy14⟩) (by assumption) ?rest14
        case hy14 => ((intro w hSw; (try dsimp only at hSw); go_simp) <;> with_reducible rfl)
        try simp only [List.getElem_toArray, List.getElem_cons_succ, List.getElem_cons_zero, Act.put, List.setIfInBounds_toArray, List.set_cons_zero, List.set_cons_succ]
        refine wpAnyH_take (i := 15) (v := ?vv15) rfl (by kernel_rfl) (by kernel_rfl) (by kernel_rfl) (fun _ _ _ h => h) (Or.inl ⟨by rfl, ?hy15⟩) (by assumption) ?rest15
        case hy15 => ((intro w hSw; (try dsimp only at hSw); go_simp) <;> with_reducible rfl)
        try simp only [List.getElem_toArray, List.getElem_cons_succ, List.getElem_cons_zero, Act.put, List.setIfInBounds_toArray, List.set_cons_zero, List.set_cons_succ]
        clear hHeld
        refine wpAnyH_ready (rs := [13, 16]) (by kernel_rfl) (by simp) ?_
        refine AllReadyH.cons rfl (fun K hK => ?_) (AllReadyH.cons rfl (fun K hK => ?_) AllReadyH.nil)
        · go_simp
          refine hK.out _ _ ⟨k2, k3, k0, k1⟩ (fun hHeld => ?_)
          clear hK K hHeld
          try simp only [List.getElem_toArray, List.getElem_cons_succ, List.getElem_cons_zero, Act.put, List.setIfInBounds_toArray, List.set_cons_zero, List.set_cons_succ]
          refine wpAnyH_ready (rs := [16]) (by kernel_rfl) (by simp) ?_
          refine AllReadyH.cons rfl (fun K hK => ?_) AllReadyH.nil
          go_simp
          refine hK.out _ _ ⟨keep_alloc (w := wr1.drew) k2 _, keep_alloc (w := wr1.drew) k3 _, keep_alloc (w := wr1.drew) k0 _, keep_alloc (w := wr1.drew) k1 _⟩ (fun hHeld => ?_)
          clear hK K hHeld
          try simp only [List.getElem_toArray, List.getElem_cons_succ, List.getElem_cons_zero, Act.put, List.setIfInBounds_toArray, List.set_cons_zero, List.set_cons_succ]
          refine wpAnyH_ready (rs := [17]) (by kernel_rfl) (by simp) ?_
          refine AllReadyH.cons rfl (fun K hK => ?_) AllReadyH.nil
          refine step_append_lies _ rfl _ _ _ rfl w2.heap.size 3 i0 _ 1 8 Try.underlying27 hi0 hz0 hz1 hz2 rfl (by omega) va rl _ rfl (World.ownsRow.alloc (w := wr1.drew) hown _) ⟨wr1.heap.size, 0, none⟩ 1 1 [.int .i64 (b : Int)] rfl rfl (World.news_of_block (cs := #[.int .i64 (b : Int)]) (t := 3) (fr := (0, 0)) (heap_alloc_at _ _ rfl)) (one1 _ _) (by omega) (by unfold maxLen; omega) (by omega) (by simp; omega) (wr1.heap.size + 1) (by simp) ?_
          intro gg cap w7 hown7 hgrow hat hlt7
          have f2 := hgrow.cell (keep_alloc (w := wr1.drew) k2 (.cells #[.int .i64 (b : Int)] 3)) (n1 _ hgbL)
          have f3 := hgrow.cell (keep_alloc (w := wr1.drew) k3 (.cells #[.int .i64 (b : Int)] 3)) (n1 _ hgsL)
          have f0 := hgrow.cell (keep_alloc (w := wr1.drew) k0 (.cells #[.int .i64 (b : Int)] 3)) n2
          have f1 := hgrow.cell (keep_alloc (w := wr1.drew) k1 (.cells #[.int .i64 (b : Int)] 3)) n2
          have f4 := hgrow.cell (keep_alloc (w := wr1.drew) k4 (.cells #[.int .i64 (b : Int)] 3)) (n1 _ hbnL)
          have f5 : w7.frozen? ⟨bn, a, none⟩ = false := (rowIs_grown (World.rowIs.alloc (w := wr1.drew) HM1.out.next (.cells #[.int .i64 (b : Int)] 3)) hgrow (n1 _ hbnL)).frozen a
          refine hK.out _ _ ⟨f2, f3, f0, f1⟩ (fun hHeld => ?_)
          clear hK K hHeld
          try simp only [List.getElem_toArray, List.getElem_cons_succ, List.getElem_cons_zero, Act.put, List.setIfInBounds_toArray, List.set_cons_zero, List.set_cons_succ]
          refine wpAnyH_ready (rs := [18]) (by kernel_rfl) (by simp) ?_
          refine AllReadyH.cons rfl (fun K hK => ?_) AllReadyH.nil
          go_simp
          refine hK.out _ _ ⟨f2, f3, f0, f1⟩ (fun hHeld => ?_)
          clear hK K hHeld
          try simp only [List.getElem_toArray, List.getElem_cons_succ, List.getElem_cons_zero, Act.put, List.setIfInBounds_toArray, List.set_cons_zero, List.set_cons_succ]
          refine wpAnyH_ready (rs := [19]) (by kernel_rfl) (by simp) ?_
          refine AllReadyH.cons rfl (fun K hK => ?_) AllReadyH.nil
          go_simp
          refine hK.out _ _ ⟨keep_set f2 m1, keep_set f3 m2, keep_set f0 m3, keep_set f1 m3⟩ (fun hHeld => ?_)
          clear hK K hHeld
          try simp only [List.getElem_toArray, List.getElem_cons_succ, List.getElem_cons_zero, Act.put, List.setIfInBounds_toArray, List.set_cons_zero, List.set_cons_succ]
          refine wpAnyH_done (by kernel_rfl) ?_ _
          have HST := Lib.hid (MG.step (HM1.out.drew.alloc (.cells #[.int .i64 (b : Int)] 3)) (x := (b : Int)) han (by simp; omega) (by rw [← HRL.out]; exact hown7) (by rw [← HVA.out]; exact hgrow) (by rw [← HVA.out]; exact hat.imp_right fun h => by simp; omega))
          rw [← HRL.out, ← HRS.out] at HST
          have HBF := Lib.hid (((below_al HB3.out.drew (.cells #[.int .i64 (b : Int)] 3)).grown hgrow (by have := HB3.out.size; simp; omega) (fun k hk => by have := (hown.lt k hk).1; omega)).setCell (p := ⟨bn, a, none⟩) hbn (.slice (some ⟨gg, 0, none⟩) (rl + 1) cap))
          have hsf := hgrow.size
          simp at hsf
          clear hgrow hat hown7 hown f0 f1 f2 f3 f4 f5 k0 k1 k2 k3 k4 k5 hlt7
          go_wp2_with fail
          go_roundw
          case rel => exact ⟨q + 1, _, by go_num, by omega, HST, HBF, by simp [World.setCell]; omega⟩
          case measure => simp [intOf]; omega
        · go_simp
          refine hK.out _ _ ⟨keep_alloc (w := wr1.drew) k2 _, keep_alloc (w := wr1.drew) k3 _, keep_alloc (w := wr1.drew) k0 _, keep_alloc (w := wr1.drew) k1 _⟩ (fun hHeld => ?_)
          clear hK K hHeld
          try simp only [List.getElem_toArray, List.getElem_cons_succ, List.getElem_cons_zero, Act.put, List.setIfInBounds_toArray, List.set_cons_zero, List.set_cons_succ]
          refine wpAnyH_ready (rs := [13]) (by kernel_rfl) (by simp) ?_
          refine AllReadyH.cons rfl (fun K hK => ?_) AllReadyH.nil
          have k4' := keep_alloc k4 (.cells #[.int .i64 (b : Int)] 3)
          go_simp
          refine hK.out _ _ ⟨keep_alloc (w := wr1.drew) k2 _, keep_alloc (w := wr1.drew) k3 _, keep_alloc (w := wr1.drew) k0 _, keep_alloc (w := wr1.drew) k1 _⟩ (fun hHeld => ?_)
          clear hK K hHeld
          try simp only [List.getElem_toArray, List.getElem_cons_succ, List.getElem_cons_zero, Act.put, List.setIfInBounds_toArray, List.set_cons_zero, List.set_cons_succ]
          refine wpAnyH_ready (rs := [17]) (by kernel_rfl) (by simp) ?_
          refine AllReadyH.cons rfl (fun K hK => ?_) AllReadyH.nil
          refine step_append_lies _ rfl _ _ _ rfl w2.heap.size 3 i0 _ 1 8 Try.underlying27 hi0 hz0 hz1 hz2 rfl (by omega) va rl _ rfl (World.ownsRow.alloc (w := wr1.drew) hown _) ⟨wr1.heap.size, 0, none⟩ 1 1 [.int .i64 (b : Int)] rfl rfl (World.news_of_block (cs := #[.int .i64 (b : Int)]) (t := 3) (fr := (0, 0)) (heap_alloc_at _ _ rfl)) (one1 _ _) (by omega) (by unfold maxLen; omega) (by omega) (by simp; omega) (wr1.heap.size + 1) (by simp) ?_
          intro gg cap w7 hown7 hgrow hat hlt7
          have f2 := hgrow.cell (keep_alloc (w := wr1.drew) k2 (.cells #[.int .i64 (b : Int)] 3)) (n1 _ hgbL)
          have f3 := hgrow.cell (keep_alloc (w := wr1.drew) k3 (.cells #[.int .i64 (b : Int)] 3)) (n1 _ hgsL)
          have f0 := hgrow.cell (keep_alloc (w := wr1.drew) k0 (.cells #[.int .i64 (b : Int)] 3)) n2
          have f1 := hgrow.cell (keep_alloc (w := wr1.drew) k1 (.cells #[.int .i64 (b : Int)] 3)) n2
          have f4 := hgrow.cell (keep_alloc (w := wr1.drew) k4 (.cells #[.int .i64 (b : Int)] 3)) (n1 _ hbnL)
          have f5 : w7.frozen? ⟨bn, a, none⟩ = false := (rowIs_grown (World.rowIs.alloc (w := wr1.drew) HM1.out.next (.cells #[.int .i64 (b : Int)] 3)) hgrow (n1 _ hbnL)).frozen a
          refine hK.out _ _ ⟨f2, f3, f0, f1⟩ (fun hHeld => ?_)
          clear hK K hHeld
          try simp only [List.getElem_toArray, List.getElem_cons_succ, List.getElem_cons_zero, Act.put, List.setIfInBounds_toArray, List.set_cons_zero, List.set_cons_succ]
          refine wpAnyH_ready (rs := [18]) (by kernel_rfl) (by simp) ?_
          refine AllReadyH.cons rfl (fun K hK => ?_) AllReadyH.nil
          go_simp
          refine hK.out _ _ ⟨f2, f3, f0, f1⟩ (fun hHeld => ?_)
          clear hK K hHeld
          try simp only [List.getElem_toArray, List.getElem_cons_succ, List.getElem_cons_zero, Act.put, List.setIfInBounds_toArray, List.set_cons_zero, List.set_cons_succ]
          refine wpAnyH_ready (rs := [19]) (by kernel_rfl) (by simp) ?_
          refine AllReadyH.cons rfl (fun K hK => ?_) AllReadyH.nil
          go_simp
          refine hK.out _ _ ⟨keep_set f2 m1, keep_set f3 m2, keep_set f0 m3, keep_set f1 m3⟩ (fun hHeld => ?_)
          clear hK K hHeld
          try simp only [List.getElem_toArray, List.getElem_cons_succ, List.getElem_cons_zero, Act.put, List.setIfInBounds_toArray, List.set_cons_zero, List.set_cons_succ]
          refine wpAnyH_done (by kernel_rfl) ?_ _
          have HST := Lib.hid (MG.step (HM1.out.drew.alloc (.cells #[.int .i64 (b : Int)] 3)) (x := (b : Int)) han (by simp; omega) (by rw [← HRL.out]; exact hown7) (by rw [← HVA.out]; exact hgrow) (by rw [← HVA.out]; exact hat.imp_right fun h => by simp; omega))
          rw [← HRL.out, ← HRS.out] at HST
          have HBF := Lib.hid (((below_al HB3.out.drew (.cells #[.int .i64 (b : Int)] 3)).grown hgrow (by have := HB3.out.size; simp; omega) (fun k hk => by have := (hown.lt k hk).1; omega)).setCell (p := ⟨bn, a, none⟩) hbn (.slice (some ⟨gg, 0, none⟩) (rl + 1) cap))
          have hsf := hgrow.size
          simp at hsf
          clear hgrow hat hown7 hown f0 f1 f2 f3 f4 f5 k0 k1 k2 k3 k4 k5 hlt7
          go_wp2_with fail
          go_roundw
          case rel => exact ⟨q + 1, _, by go_num, by omega, HST, HBF, by simp [World.setCell]; omega⟩
          case measure => simp [intOf]; omega
      · obtain rfl : q = es.length := by omega
        have hm := HM.out
        rw [show (fun i => rawR ((natE es).take es.length) i) = fun i => rawR (natE es) i from funext fun i => by rw [List.take_of_length_le (by simp [natE])]] at hm
        have HM2 := Lib.hid hm
        clear hm HM
        obtain ⟨w3, hw3⟩ : ∃ w3, w3 = wr := ⟨_, rfl⟩
        subst hw3
        have k0 := HM2.out.cnb
        have hmk2 := run_make_row' (P := Try.prog) 28 4 (.bool false) 1 Try.underlying28 infoBool rfl .i64 .i64 n (by omega) (by omega)
        obtain ⟨w4, hw4⟩ : ∃ w4, w4 = ((w3.alloc (.cells (madeCells #[.bool false] n) 4)).alloc (.cells #[.slice (some ⟨w3.heap.size, 0, none⟩) n n] 28)).alloc (.cells #[.func (.func 22) #[] #[.pointer (some ⟨w3.heap.size + 1, 0, none⟩), .pointer (some ⟨gb, 0, none⟩), .pointer (some ⟨W.heap.size, 0, none⟩), .pointer (some ⟨w3.heap.size + 1 + 1, 0, none⟩)]] 55) := ⟨_, rfl⟩
        have HGS := Lib.hid (show GS n ⟨W.heap.size, gb, gs, bn, bp, w3.heap.size + 1, w3.heap.size, w3.heap.size + 1 + 1, w2.heap.size, w3.heap.size⟩ (fun _ => false) (fun _ => -1) nv (fun i => rawR (natE es) i) w4 from by
          rw [hw4]
          exact ⟨keep_alloc (keep_alloc (keep_alloc HM2.out.cnb _) _) _, keep_alloc (keep_alloc (keep_alloc HM2.out.cgb _) _) _, keep_alloc (keep_alloc (keep_alloc HM2.out.g0 _) _) _, keep_alloc (keep_alloc (keep_alloc HM2.out.g1 _) _) _,
            keep_alloc (at_one _ _ _ _ (by simp)) _, at_one _ _ _ _ (by simp), ((made_at _ _ _ _ _ rfl).alloc _).alloc _, ((HM2.out.num.alloc _).alloc _).alloc _, ((HM2.out.next.alloc _).alloc _).alloc _, fun i hi => (((HM2.out.row i hi).alloc _).alloc _).alloc _⟩)
        have HAP := Lib.hid (show Pl.Apart ⟨W.heap.size, gb, gs, bn, bp, w3.heap.size + 1, w3.heap.size, w3.heap.size + 1 + 1, w2.heap.size, w3.heap.size⟩ n nv from
          ⟨HM2.out.low, HDI.out, ⟨hsz, by show w3.heap.size ≤ w3.heap.size + 1; omega, Nat.le_refl _, by show w3.heap.size ≤ w3.heap.size + 1 + 1; omega⟩, ⟨by show w3.heap.size + 1 ≠ w3.heap.size; omega, by show w3.heap.size + 1 + 1 ≠ w3.heap.size; omega⟩, fun i hi b hb => (HM2.out.row i hi).lt b hb, HM2.out.two⟩)
        have HPI := Lib.hid (show PInv (natE es) n (fun _ => false) (fun _ => -1) (fun i => rawR (natE es) i) from ⟨fun j _ => .inl rfl, fun j _ h => by rcases h with h | h <;> simp at h, fun j _ _ _ => rfl⟩)
        have HB4 := Lib.hid (show Below W.heap.size W w4 by rw [hw4]; exact below_al (below_al (below_al (HB1.out.trans (HBE.out.mono HB1.out.size)) _) _) _)
        have hesN : ∀ e ∈ natE es, e.1 < n ∧ e.2 < n := fun e he => by
          simp only [natE, List.mem_map] at he
          obtain ⟨⟨x, y⟩, hm, rfl⟩ := he
          have := HOK.out.2.2.2 _ hm
          simp only at this ⊢
          omega
        have HES := Lib.hid hesN
        have HCO := Lib.hid (count_any (natE es) n hn2 hesN HND.out ⟨W.heap.size, gb, gs, bn, bp, w3.heap.size + 1, w3.heap.size, w3.heap.size + 1 + 1, w2.heap.size, w3.heap.size⟩ nv HAP.out W.heap.size ⟨by show W.heap.size ≤ w2.heap.size; omega, by show W.heap.size ≤ bp; omega⟩ W)
        have hw4' := hw4.symm
        have k1 : w4.cell? ⟨W.heap.size, 0, none⟩ = some (.int .i64 n) := HGS.out.nb
        clear hw4 hesN
        go_wp2_with fail
        clear hmk2 hw4' k0 k1
        go_loopw [48] (fun iv wr => ∃ (i : Nat) (ps : Nat → Int) (rows : Nat → List Int), iv = .int .i64 (i : Int) ∧ i ≤ n ∧ RowKit.Hid (PInv (natE es) n (fun _ => false) ps rows) ∧ RowKit.Hid (∀ j, j < i → 0 ≤ ps j) ∧ RowKit.Hid (GS n ⟨W.heap.size, gb, gs, bn, bp, w3.heap.size + 1, w3.heap.size, w3.heap.size + 1 + 1, w2.heap.size, w3.heap.size⟩ (fun _ => false) ps nv rows wr) ∧ RowKit.Hid (Below W.heap.size W wr)) (fun iv _ => n - (intOf iv).toNat)
        case atStart => exact ⟨0, _, _, rfl, by omega, HPI, Lib.hid (fun j hj => by omega), HGS, HB4⟩
        clear HPI HGS HB4
        case round =>
          obtain ⟨i, ps, rows, rfl, hi, hpi, hdone, hgs, hbel⟩ := hrel
          have HPI := Lib.hid hpi.out
          have HD := Lib.hid hdone.out
          have HGS := Lib.hid hgs.out
          have HBW := Lib.hid hbel.out
          clear hpi hdone hgs hbel
          by_cases hin : i < n
          · have f1 : wr.cell? ⟨w3.heap.size + 1 + 1, 0, none⟩ = some (.func (.func 22) #[] #[.pointer (some ⟨w3.heap.size + 1, 0, none⟩), .pointer (some ⟨gb, 0, none⟩), .pointer (some ⟨W.heap.size, 0, none⟩), .pointer (some ⟨w3.heap.size + 1 + 1, 0, none⟩)]) := HGS.out.cb
            have HC := Lib.hid (HCO.out (n + 1) i (fun _ => false) ps rows wr hin (by have := unv_n n (fun _ => false) ps; omega) HPI.out (fun j _ h => by cases h) HGS.out HBW.out)
            go_wp2_with fail
            refine HC.out.mono ?_
            clear HC f1
            rintro e w5 ⟨hb5, ⟨ps5, rows5, rfl, hi5, hd5, hm5, hg5⟩ | ⟨rfl, hno⟩⟩
            · have HR := Lib.hid (And.intro hi5 (And.intro hd5 (And.intro hm5 (And.intro hg5 hb5))))
              clear hi5 hd5 hm5 hg5 hb5
              go_wp2_with fail
              go_roundw
              case rel => exact ⟨i + 1, ps5, rows5, by go_num, by omega, Lib.hid HR.out.1, Lib.hid (fun j hj => by
                by_cases e : j = i
                · rw [e]; exact HR.out.2.1
                · exact HR.out.2.2.1 j (HD.out j (by omega))), Lib.hid HR.out.2.2.2.1, Lib.hid HR.out.2.2.2.2⟩
              case measure => simp [intOf]; omega
            · have HN := Lib.hid (And.intro hb5 hno)
              clear hb5 hno
              go_wp2_with fail
              go_ret
              exact ⟨HN.out.1, .inl ⟨HN.out.2, rfl⟩⟩
          · obtain rfl : i = n := by omega
            have f1 : wr.cell? ⟨gb, 0, none⟩ = some (.pointer (some ⟨gs, 0, none⟩)) := HGS.out.gb
            have hacy : Acy (natE es) := acy_of_good fun a b hab => (np_of_done HPI.out (HES.out _ hab).1 (HD.out _ (HES.out _ hab).1)).2.1
            have HG := Lib.hid (show GraphAt (natE es) i gs wr from ⟨bn, bp, HGS.out.g0, HGS.out.g1, fun j hj => by
              have hr := HGS.out.row j hj
              have hs : rows j = sc (natE es) i j := HPI.out.seen j hj (.inr (HD.out j hj))
              rw [hs] at hr
              obtain ⟨ro, rc, hnv⟩ := owns_shape hr
              have hc := HGS.out.next.cell hj
              rw [hnv] at hr hc
              exact ⟨ro, rc, hc, IntsAt.of_owns hr⟩, fun j hj => by
              have hc := HGS.out.num.cell hj
              rw [(np_of_done HPI.out hj (HD.out j hj)).1] at hc
              exact hc⟩)
            have HA := Lib.hid hacy
            clear hacy
            go_wp2_with fail
            go_ret
            exact ⟨HBW.out, .inr ⟨HA.out, gs, rfl, HG.out⟩⟩
end Go.Proofs.Ytppbaiilhaagdaa
