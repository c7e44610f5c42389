/- tour.Round. -/
import Derived.Test.YtnbnfgljbhidbaaDoorD
import Derived.Test.YtnbnfgljbhidbaaDoorLists
import Derived.Test.YtnbnfgljbhidbaaDoorMore
import Derived.Deep.CutRange
import Derived.Deep.RegionHeld3
import Derived.Deep.AppendLies
import Derived.Deep.RegionLaw
namespace Go.Proofs.YtnbnfgljbhidbaaDoor
open Go.RowKit Go.Mine Go.Mine.Tour Go.Deep

theorem info24 : (Tryd.prog.info? 26).map (fun i => (i.zero, i.size, i.bytes)) = some (some (.slice none 0 0), 1, 24) := by kernel_rfl

def Bal (n : Nat) (es : List (Int × Int)) : Prop := ∀ v : Int, 0 ≤ v → v < n → es.countP (fun e => decide (e.1 = v)) = es.countP (fun e => decide (e.2 = v))
theorem bal_iff (n : Nat) (es : List (Int × Int)) : (∃ x ∈ offs es n es.length, x ≠ 0) ↔ ¬ Bal n es := by
  constructor
  · rintro ⟨x, hx, hne⟩ hb
    simp only [offs, List.mem_map, List.mem_range] at hx
    obtain ⟨v, hv, rfl⟩ := hx
    have := hb v (by omega) (by omega)
    apply hne
    unfold offK
    rw [List.take_length]
    omega
  · intro hb
    apply Classical.byContradiction
    intro hno
    apply hb
    intro v hv0 hvn
    obtain ⟨u, rfl⟩ := Int.eq_ofNat_of_zero_le hv0
    have : offK es es.length u = 0 := by
      apply Classical.byContradiction
      intro hne
      exact hno ⟨_, by simp only [offs, List.mem_map, List.mem_range]; exact ⟨u, by omega, rfl⟩, hne⟩
    unfold offK at this
    rw [List.take_length] at this
    omega

theorem frozen_alloc {w : World} (o : Obj) {p : Addr} (h : p.block < w.heap.size) (hf : w.frozen? p = false) : (w.alloc o).frozen? p = false :=
  (World.frozen?_of_block (w := w) (Below.heap_alloc _ _ _ h)).trans hf
theorem frozen_drew {w : World} {p : Addr} (h : w.frozen? p = false) : w.drew.frozen? p = false := h

theorem row_le : ∀ (next : List (List Int)) (i : Nat), (next.getD i []).length ≤ next.flatten.length
  | [], i => by simp
  | r :: next, 0 => by simp
  | r :: next, i + 1 => by
    have := row_le next i
    simp only [List.getD_cons_succ, List.flatten_cons, List.length_append]
    omega

def lenV : Value → Nat
  | .slice _ n _ => n
  | _ => 0

/-- What Round tells. -/
def RoundPost (n : Int) (es : List (Int × Int)) (e : Ending) (w' : World) : Prop :=
  (¬ ok n es ∧ e = .returned (.tuple #[.slice none 0 0, .iface 24 (.int .i64 (efault n es))])) ∨
  (ok n es ∧ ¬ Bal n.toNat es ∧ e = .returned (.tuple #[.slice none 0 0, .iface 24 (.int .i64 2)])) ∨
  (ok n es ∧ Bal n.toNat es ∧ ∃ next out, Go.Mine.Tour.End es n.toNat next out ∧ ((out.length ≠ es.length + 1 ∧ e = .returned (.tuple #[.slice none 0 0, .iface 24 (.int .i64 2)])) ∨
    (out.length = es.length + 1 ∧ ∃ ao cap, e = .returned (.tuple #[.slice ao out.length cap, .nilIface]) ∧ IntsAt .i64 w' ao out.reverse)))

set_option maxRecDepth 100000 in
set_option maxHeartbeats 1000000 in
theorem round_any (n : Int) (es : List (Int × Int)) (lo : Option Addr) (lc : Nat) (W : World) (hx : PairsAt W lo es) (hl : es.length ≤ maxLen) :
    Calls Tryd.prog 11 #[.int .i64 n, .slice lo es.length lc] W fun e w' => RoundPost n es e w' ∧ Below W.heap.size W w' := by
  have HOF := Lib.hid (off_any n es lo lc W hx hl)
  have HX := Lib.hid hx
  clear hx
  by_cases hok : ok n es
  · obtain ⟨N, rfl⟩ := Int.eq_ofNat_of_zero_le (show 0 ≤ n by have := hok.1; omega)
    have hn1 := hok.1
    have hn12 := hok.2.1
    have hl30 := hok.2.2.1
    have HES := Lib.hid hok.2.2.2
    have HOK := Lib.hid hok
    obtain ⟨i0, hi0, hz0, hz1, hz2⟩ := info_parts info3
    have hmk := run_make_row' (P := Tryd.prog) 43 26 (.slice none 0 0) 24 Tryd.underlying43 info24 rfl .i64 .i64 N (by omega) (by omega)
    clear hok
    go_enter Tryd.func11, Tryd.ntmps11
    go_wp2_with fail
    refine HOF.out.mono ?_
    rintro e w1 ⟨hp, hb1⟩
    rcases hp with ⟨_, g1, rfl, ho1⟩ | ⟨h, _⟩
    · simp only [Int.toNat_natCast] at ho1 ⊢
      have HC := contains_any (offs es N es.length) (some ⟨g1, 0, none⟩) N w1 (IntsAt.of_owns ho1) (by rw [offs_len]; omega)
      rw [offs_len] at HC
      clear ho1
      by_cases hB : Bal N es
      · rw [decide_eq_false (fun h => (bal_iff N es).1 h hB)] at HC
        have HBAL := Lib.hid hB
        clear hB
        go_wp2_with fail
        refine HC.mono ?_
        rintro e w' ⟨rfl, rfl⟩
        have HN1 := Lib.hid (NextOwn.made (w := w1) (B := W.heap.size) (n := N) hb1.size (by omega))
        have HB1 := Lib.hid (hb1.alloc hb1.size (.cells (madeCells #[Value.slice none 0 0] N) 26))
        clear HC hb1
        go_wp2_with fail
        go_loopw [31] (fun t wr => ∃ (k : Nat) (next : List (List Int)) (V : Nat → Value), t = .int .i64 k ∧ k ≤ es.length ∧ RowKit.Hid (NextOwn wr W.heap.size w1.heap.size N next V) ∧ RowKit.Hid (Built es N next k) ∧ Below W.heap.size W wr) (fun t _ => es.length - (intOf t).toNat)
        case atStart => exact ⟨0, _, _, rfl, by omega, HN1, Lib.hid (Built.start es N), HB1.out⟩
        case round =>
          obtain ⟨k, next, V, rfl, hk, hno, hbu, hb⟩ := hrel
          clear hmk
          by_cases hlt : k < es.length
          · obtain ⟨b0, o0, rfl, hc1, hc2⟩ := HX.out.below (Nat.le_refl _) hb k hlt
            have hmem : es.getD k (0, 0) ∈ es := by simp [hlt]
            obtain ⟨q1, q2, q3, q4⟩ := HES.out _ hmem
            obtain ⟨⟨x, y⟩, hxy⟩ : ∃ e, e = es.getD k (0, 0) := ⟨_, rfl⟩
            rw [← hxy] at hc1 hc2 q1 q2 q3 q4
            obtain ⟨a, rfl⟩ := Int.eq_ofNat_of_zero_le q1
            obtain ⟨b, rfl⟩ := Int.eq_ofNat_of_zero_le q3
            simp only at hc1 hc2 q2 q4
            have han : a < N := by simpa using q2
            have hbn : b < N := by simpa using q4
            have hbu2 := Lib.hid (hbu.out.step hlt hxy.symm ⟨by omega, by omega⟩ ⟨by omega, by omega⟩)
            simp only [Int.toNat_natCast] at hbu2
            have hca := hno.out.cell han
            have hfa := hno.out.row.frozenAt a
            have hgl := (hno.out.row.lt w1.heap.size rfl).2
            have hrl : (next.getD a []).length ≤ 30 := by
              have hm : next.getD a [] ∈ next := by simp [List.getD, hno.out.len, han]
              have := hbu.out.short _ hm
              omega
            clear q1 q3 hxy hmem
            go_upto_region 10 with fail
            have hfar := hno.out.far a han
            have hown0 := hno.out.own a han
            have hvlt : ∀ k, (V a).ownBlock = some k → k < wr.heap.size := fun k hk => (hown0.lt k hk).2
            have hno2 := Lib.hid (((hno.out.alloc (.cells #[.int .i64 a, .int .i64 b] 36)).alloc (.cells #[.int .i64 b] 3)).drew)
            obtain ⟨va, hva⟩ : ∃ va, va = V a := ⟨_, rfl⟩
            rw [← hva] at hca hfar hown0 hvlt
            obtain ⟨rl, hrl2⟩ : ∃ rl, rl = (next.getD a []).length := ⟨_, rfl⟩
            rw [← hrl2] at hrl hown0
            have HVA := Lib.hid hva
            have HRL := Lib.hid hrl2
            clear hva hrl2
            have hn0 : ∀ k, wr.heap.size ≤ k → va.ownBlock ≠ some k := fun k hk e => by have := hvlt k e; omega
            have hc0 : (wr.alloc (.cells #[.int .i64 a, .int .i64 b] 36)).cell? ⟨wr.heap.size, 0, none⟩ = some (.int .i64 a) := by simp [go_sem]
            have hc9 : (wr.alloc (.cells #[.int .i64 a, .int .i64 b] 36)).cell? ⟨wr.heap.size, 1, none⟩ = some (.int .i64 b) := by simp [go_sem]
            have hbsz := hb.size
            have hfa1 := frozen_alloc (.cells #[.int .i64 a, .int .i64 b] 36) (p := ⟨w1.heap.size, a, none⟩) hgl hfa
            have hfa2 := frozen_alloc (.cells #[.int .i64 b] 3) (p := ⟨w1.heap.size, a, none⟩) (by simp; omega) hfa1
            go_region_law (first
              | ((refine step_append_lies _ rfl _ _ _ rfl W.heap.size 3 i0 _ 1 8 Tryd.underlying26 hi0 hz0 hz1 hz2 rfl (by omega) va rl _ rfl (((hown0.alloc _).alloc _).drew) ⟨wr.heap.size + 1, 0, none⟩ 1 1 [.int .i64 b] rfl rfl (World.news_of_block (cs := #[.int .i64 b]) (t := 3) (fr := (0, 0)) (heap_drew_at (heap_alloc_at _ _ (by simp)))) (one1 _ _) (by omega) (by unfold maxLen; omega) (by omega) (by simp; omega) (wr.heap.size + 1 + 1) (by simp) ?_)
                 intro gg cap w7 hown7 hgrow hat hlt7
                 try go_split_ands
                 have k0 : w7.cell? ⟨wr.heap.size, 0, none⟩ = some (.int .i64 a) := (hgrow.cell_far _ (by simp; omega) (Ne.symm (hn0 _ (Nat.le_refl _)))).trans (by simp [go_sem])
                 have k1 : w7.cell? ⟨wr.heap.size, 1, none⟩ = some (.int .i64 b) := (hgrow.cell_far _ (by simp; omega) (Ne.symm (hn0 _ (Nat.le_refl _)))).trans (by simp [go_sem])
                 have k2 : w7.cell? ⟨w1.heap.size, a, none⟩ = some va := (hgrow.cell_far _ (by simp; omega) (Ne.symm hfar)).trans (by simp [go_sem, hca, hgl]; try omega)
                 have k3 : w7.frozen? ⟨w1.heap.size, a, none⟩ = false := (hgrow.frozen_far _ (by simp; omega) (Ne.symm hfar)).trans (frozen_drew hfa2)))
            all_goals
              have hst := Lib.hid (hno2.out.step (m := rl + 1) han (by rw [HRL.out]) hown7 (by rw [← HVA.out]; exact hgrow) (by rw [← HVA.out]; exact hat.imp_right fun h => by simp; omega))
              have hgW := (hno.out.row.lt w1.heap.size rfl).1
              have hb7 := Lib.hid (((((hb.alloc hbsz (.cells #[.int .i64 a, .int .i64 b] 36)).alloc (by simp; omega) (.cells #[.int .i64 b] 3)).drew).grown hgrow (by simp; omega) (fun k hk => (hown0.lt k hk).1)).setCell (p := ⟨w1.heap.size, a, none⟩) hgW (.slice (some ⟨gg, 0, none⟩) (rl + 1) cap))
              clear hgrow hat hown7 hn0 hvlt hown0
              go_wp2_with fail
              go_roundw
              case rel => exact ⟨k + 1, _, _, by go_num, by omega, hst, hbu2, hb7.out⟩
              case measure => simp [intOf]; omega
          · have hke : k = es.length := by omega
            subst hke
            obtain ⟨wx, hwx⟩ : ∃ wx, wx = wr := ⟨_, rfl⟩
            subst hwx
            have hmid := Lib.hid (hbu.out.mid (by omega) HBAL.out)
            have hr2 := Lib.hid ((hno.out.rows2).alloc (.cells #[.int .i64 0] 3))
            have hst0 : (wx.alloc (.cells #[.int .i64 0] 3)).ownsRow wx.heap.size 3 1 (.slice (some ⟨wx.heap.size, 0, none⟩) 1 1) 1 (([0] : List Int).map (Value.int .i64)) := owns_laid (cs := #[.int .i64 0]) (heap_alloc_at _ _ rfl) (Nat.le_refl _) (by simp) (by unfold maxLen; omega)
            have HST := Lib.hid hst0
            have HB2 := Lib.hid (hb.alloc hb.size (.cells #[.int .i64 0] 3))
            have HWR := Lib.hid hb.size
            clear hb hst0 hno hbu
            go_wp2_with fail
            go_loopw [11, 12] (fun vo vs wq => ∃ (next : List (List Int)) (V : Nat → Value) (st out : List Int), wq.ownsRow wx.heap.size 3 1 vs st.length (st.map (Value.int .i64)) ∧ wq.ownsRow wx.heap.size 3 1 vo out.length (out.map (Value.int .i64)) ∧ Apart vs vo ∧
              RowKit.Hid (Rows2 wq W.heap.size w1.heap.size N wx.heap.size next V) ∧ ((st = [] ∧ RowKit.Hid (Go.Mine.Tour.End es N next out)) ∨ (st ≠ [] ∧ RowKit.Hid (∃ p top, Mid es N next st out p top))) ∧ Below W.heap.size W wq)
              (fun vo vs _ => 2 * (es.length + 1) - lenV vs - 2 * lenV vo)
            case atStart => exact ⟨next, V, [0], [], HST.out, World.ownsRow_nil _ _ _ _, (fun k _ h => by cases h), hr2, .inr ⟨by simp, Lib.hid ⟨0, 0, hmid.out⟩⟩, HB2.out⟩
            case round =>
              obtain ⟨nx, U, st, out, hos, hoo, hap, hrw, hcase, hb⟩ := hrel
              have hbs := hb.size
              have hws := hrw.out.size
              rcases hcase with ⟨rfl, hend⟩ | ⟨hne, hmd⟩
              · obtain ⟨sa, cs, rfl⟩ := owns_shape hos
                have hone : 0 < out.length := by
                  have := hend.out.first
                  cases out with
                  | nil => cases this
                  | cons z t => simp
                obtain ⟨ao, co, rfl⟩ := owns_shape hoo
                obtain ⟨gs, rfl⟩ : ∃ gs, ao = some ⟨gs, 0, none⟩ := by
                  rcases hoo.2 with ⟨h1, h0⟩ | ⟨gs, _, _, h1, _⟩
                  · omega
                  · simp only [Value.slice.injEq] at h1; exact ⟨gs, h1.1⟩
                have hmany := hend.out.many
                by_cases hlen : out.length = es.length + 1
                · have R := Lib.hid (reverse_any wx.heap.size gs co out wr hoo (by omega) hone)
                  have hrow := fun k hk => Nat.le_trans HWR.out (hoo.lt k hk).1
                  have HLEN := Lib.hid hlen
                  have hlz : (out.length : Int) = (es.length : Int) + 1 := by omega
                  rw [hlen] at R
                  rw [hlen]
                  clear hlen hmany
                  go_wp2_with fail
                  refine R.out.mono ?_
                  rintro e w5 ⟨rfl, ho5, hg5⟩
                  have hb5 := hb.grown hg5 hb.size hrow
                  have hi5 := IntsAt.of_owns ho5
                  clear ho5 hg5 R
                  go_wp2_with fail
                  go_ret2
                  exact ⟨.inr (.inr ⟨HOK.out, by simpa using HBAL.out, nx, out, by simpa using hend.out, .inr ⟨HLEN.out, some ⟨gs, 0, none⟩, co, by rw [HLEN.out]; rfl, hi5⟩⟩), hb5⟩
                · have hd : ((out.length : Int) == (es.length : Int) + 1) = false := by simp; omega
                  have HLEN := Lib.hid hlen
                  clear hlen
                  go_wp2_with fail
                  go_ret2
                  exact ⟨.inr (.inr ⟨HOK.out, by simpa using HBAL.out, nx, out, by simpa using hend.out, .inl ⟨HLEN.out, rfl⟩⟩), hb⟩
              · obtain ⟨p, top, hm⟩ := hmd.out
                obtain ⟨s0, rfl⟩ : ∃ s0, st = s0 ++ [top] := by
                  have := List.getLast?_eq_some_iff.1 hm.last
                  exact this
                have htop := hm.top_in
                obtain ⟨t, rfl⟩ := Int.eq_ofNat_of_zero_le htop.1
                have htn : t < N := by omega
                have hcg := hrw.out.cell htn
                obtain ⟨ro, rc, hUt, hri, hrc, hrf⟩ := hrw.out.vals t htn
                rw [hUt] at hcg
                have hmany := hm.many
                have hMM := Lib.hid hm
                obtain ⟨m, hm0⟩ : ∃ m, m = s0.length := ⟨_, rfl⟩
                have hsl : (s0 ++ [(t : Int)]).length = m + 1 := by rw [hm0]; simp
                have HM0 := Lib.hid hm0
                rw [hsl] at hos hmany
                obtain ⟨sa, cs, rfl⟩ := owns_shape hos
                obtain ⟨gs, rfl⟩ : ∃ gs, sa = some ⟨gs, 0, none⟩ := by
                  rcases hos.2 with ⟨h1, h0⟩ | ⟨gs, _, _, h1, _⟩
                  · omega
                  · simp only [Value.slice.injEq] at h1; exact ⟨gs, h1.1⟩
                obtain ⟨ao, co, rfl⟩ := owns_shape hoo
                have hmc : m + 1 ≤ cs := by
                  rcases hos.2 with ⟨_, h0⟩ | ⟨_, _, _, h1, _, _, hnc, _⟩
                  · omega
                  · cases h1; exact hnc
                have hct : wr.cell? ⟨gs, m, none⟩ = some (.int .i64 t) := by rw [hos.cellAt m (by omega), hm0]; simp
                have hglow := hrw.out.low
                have hftn := hrw.out.row.frozenAt t
                have HUT := Lib.hid hUt
                clear hUt hm0 hsl hne hm htop hmd
                rcases List.eq_nil_or_concat (nx.getD t []) with hrow | ⟨row, b, hrow⟩
                · have HROW := Lib.hid hrow
                  have hr0 : (nx.getD t []).length = 0 := by rw [hrow]; rfl
                  rw [hr0] at hcg
                  clear hrow hr0 hri hrc hrf
                  go_wp2_with (at_builtin; refine wpList_push2 _ rfl (.tmp 87) (.tmp 89) 26 rfl wx.heap.size 3 i0 (.int .i64 0) 1 8 Tryd.underlying26 hi0 hz0 hz1 hz2 rfl (by decide) _ _ _ rfl (hoo.alloc _) ⟨wr.heap.size, 0, none⟩ 1 [.int .i64 t] rfl rfl (cell_one_new _ _ _) (one1 _ _) (by unfold maxLen; omega) (by omega) (by simp; omega) ?_)
                  intro g2 cap2 w7 ho7 hg7 hat7
                  have hos7 := owns_apart (hos.alloc _) hg7 hap.symm
                  have hap7 := (hap.symm.grown (n := out.length + 1) (cap := cap2) (hos.alloc (.cells #[.int .i64 t] 3)) (hat7.imp_right fun h => by simp; omega)).symm
                  have hrw7 := Lib.hid ((hrw.out.alloc _).grown hg7 (fun k hk => (hoo.lt k hk).1))
                  have hb7 := Lib.hid ((hb.alloc hbs (.cells #[.int .i64 t] 3)).grown hg7 (by simp; omega) (fun k hk => Nat.le_trans HWR.out (hoo.lt k hk).1))
                  have hos8 := owns_take hos7 (k := m) (by omega)
                  have hos9 : w7.ownsRow wx.heap.size 3 1 (.slice (some ⟨gs, 0, none⟩) m cs) s0.length (s0.map (Value.int .i64)) := by
                    rw [← HM0.out]
                    rw [List.map_append, List.take_left' (by rw [List.length_map, HM0.out])] at hos8
                    exact hos8
                  clear hos hoo hg7 hat7 hos7 hos8 hct hcg
                  go_wp2_with fail
                  go_roundw
                  case rel =>
                    refine ⟨nx, U, s0, out ++ [(t : Int)], hos9, by simpa using ho7, fun k h1 h2 => hap7 k h1 h2, hrw7, ?_, hb7.out⟩
                    rcases List.eq_nil_or_concat s0 with h0 | ⟨s1, q, h0⟩
                    · subst h0
                      exact .inl ⟨rfl, Lib.hid (hMM.out.stop (by simpa using HROW.out))⟩
                    · rw [List.concat_eq_append] at h0
                      subst h0
                      refine .inr ⟨by simp, Lib.hid ⟨q, q, Mid.pop (by have := hMM.out; rwa [List.append_assoc] at this) (by simpa using HROW.out)⟩⟩
                  case measure => simp only [lenV]; omega
                · rw [List.concat_eq_append] at hrow
                  have HROW := Lib.hid hrow
                  obtain ⟨r, hr⟩ : ∃ r, r = row.length := ⟨_, rfl⟩
                  have hr0 : (nx.getD t []).length = r + 1 := by rw [hrow, hr]; simp
                  have HR := Lib.hid hr
                  have hrle := row_le nx t
                  rw [hr0] at hcg hrc hrle
                  have hr31 : r ≤ 31 := by omega
                  rw [hrow] at hri
                  obtain ⟨bb, ob, hroe, hcb⟩ := hri r (by rw [hr]; simp)
                  subst hroe
                  have hbv : (row ++ [b]).getD r 0 = b := by rw [hr]; simp
                  rw [hbv] at hcb
                  clear hrow hr hr0 hri hrf hbv
                  go_wp2_with (at_builtin; refine wpList_push2 _ rfl (.tmp 66) (.tmp 75) 26 rfl wx.heap.size 3 i0 (.int .i64 0) 1 8 Tryd.underlying26 hi0 hz0 hz1 hz2 rfl (by decide) _ _ _ rfl (hos.alloc _) ⟨wr.heap.size, 0, none⟩ 1 [.int .i64 b] rfl rfl (cell_one_new _ _ _) (one1 _ _) (by unfold maxLen; omega) (by omega) (by simp; omega) ?_)
                  intro g2 cap2 w7 ho7 hg7 hat7
                  have hoo7 := owns_apart (hoo.alloc (.cells #[.int .i64 b] 3)) hg7 hap
                  have hap7 := hap.grown (n := m + 1 + 1) (cap := cap2) (hoo.alloc (.cells #[.int .i64 b] 3)) (hat7.imp_right fun h => by simp; omega)
                  have hrw7 := (hrw.out.alloc _).grown hg7 (fun k hk => (hos.lt k hk).1)
                  have hb7 := (hb.alloc hbs (.cells #[.int .i64 b] 3)).grown hg7 (by simp; omega) (fun k hk => Nat.le_trans HWR.out (hos.lt k hk).1)
                  have hcg7 := hrw7.cell htn
                  rw [HUT.out, HROW.out] at hcg7
                  have hlr : (row ++ [b]).length = r + 1 := by rw [HR.out]; simp
                  rw [hlr] at hcg7
                  have hft7 := hrw7.row.frozenAt t
                  have hcut := Lib.hid (hrw7.cut (m := r) htn HROW.out HUT.out HR.out)
                  have hgW := (hrw7.row.lt w1.heap.size rfl).1
                  have hb8 := Lib.hid (hb7.setCell (p := ⟨w1.heap.size, t, none⟩) hgW (.slice (some ⟨bb, ob, none⟩) r rc))
                  have hos8 := Lib.hid (ownsRow_setCell_below ho7 (a := ⟨w1.heap.size, t, none⟩) hglow (.slice (some ⟨bb, ob, none⟩) r rc))
                  have hoo8 := Lib.hid (ownsRow_setCell_below hoo7 (a := ⟨w1.heap.size, t, none⟩) hglow (.slice (some ⟨bb, ob, none⟩) r rc))
                  clear hos hoo hg7 hat7 ho7 hoo7 hct hcg hcb hrw7 hb7 hgW hlr
                  go_wp2_with fail
                  go_roundw
                  case rel =>
                    refine ⟨nx.set t row, _, s0 ++ [(t : Int)] ++ [b], out, ?_, hoo8.out, fun k h1 h2 => hap7 k h1 h2, hcut, .inr ⟨by simp, Lib.hid ⟨p, b, by have := hMM.out.push (row := row) (b := b) (by simpa using HROW.out); simpa using this⟩⟩, hb8.out⟩
                    have h9 := hos8.out
                    rw [List.map_append (l₂ := [b]), List.length_append, show (s0 ++ [(t : Int)]).length = m + 1 by rw [HM0.out]; simp]
                    simpa using h9
                  case measure => simp only [lenV]; omega
      · have hBA := (bal_iff N es).2 hB
        rw [decide_eq_true hBA] at HC
        have HBN := Lib.hid hB
        clear hB hBA hmk
        go_wp2_with fail
        refine HC.mono ?_
        rintro e w' ⟨rfl, rfl⟩
        clear HC
        go_wp2_with fail
        go_ret2
        exact ⟨.inr (.inl ⟨HOK.out, by simpa using HBN.out, rfl⟩), hb1⟩
    · exact absurd HOK.out h
  · have HOK := Lib.hid hok
    clear hok
    go_enter Tryd.func11, Tryd.ntmps11
    go_wp2_with fail
    refine HOF.out.mono ?_
    rintro e w1 ⟨hp, hb1⟩
    rcases hp with ⟨h, _⟩ | ⟨_, rfl⟩
    · exact absurd h HOK.out
    · go_wp2_with fail
      go_ret2
      exact ⟨.inl ⟨HOK.out, rfl⟩, hb1⟩
end Go.Proofs.YtnbnfgljbhidbaaDoor
