/- path.made's count. No conditions. -/
import Derived.Test.YtppbaiilhaagdaaPath0
import Derived.Test.YtppbaiilhaagdaaPathM
import Derived.Deep.OwnRows
import Derived.Deep.RegionHeld3
import Derived.Deep.QuietTactic
import Derived.BigQuiet
import Derived.IntWalk
import Derived.Deep.Cut
import Derived.Deep.CutBlock
import Derived.Deep.CutRange
namespace Go.Proofs.Ytppbaiilhaagdaa
open Go.RowKit Go.Mine Go.Mine.Path Go.Deep

/-- Where things lie. -/
structure Pl where
  nb : Nat
  gb : Nat
  gs : Nat
  bn : Nat
  bp : Nat
  ob : Nat
  bo : Nat
  cb : Nat
  L : Nat
  H : Nat
/-- The graph as it is counted. -/
structure GS (n : Nat) (p : Pl) (op : Nat → Bool) (ps : Nat → Int) (nv : Nat → Value) (rows : Nat → List Int) (w : World) : Prop where
  nb : w.cell? ⟨p.nb, 0, none⟩ = some (.int .i64 n)
  gb : w.cell? ⟨p.gb, 0, none⟩ = some (.pointer (some ⟨p.gs, 0, none⟩))
  g0 : w.cell? ⟨p.gs, 0, none⟩ = some (.slice (some ⟨p.bn, 0, none⟩) n n)
  g1 : w.cell? ⟨p.gs, 1, none⟩ = some (.slice (some ⟨p.bp, 0, none⟩) n n)
  ob : w.cell? ⟨p.ob, 0, none⟩ = some (.slice (some ⟨p.bo, 0, none⟩) n n)
  cb : w.cell? ⟨p.cb, 0, none⟩ = some (.func (.func 22) #[] #[.pointer (some ⟨p.ob, 0, none⟩), .pointer (some ⟨p.gb, 0, none⟩), .pointer (some ⟨p.nb, 0, none⟩), .pointer (some ⟨p.cb, 0, none⟩)])
  open_ : w.rowIs p.bo 4 n fun i => .bool (op i)
  num : w.rowIs p.bp 3 n fun i => .int .i64 (ps i)
  next : w.rowIs p.bn 27 n nv
  row : ∀ i, i < n → w.ownsRow p.L 3 1 (nv i) (rows i).length ((rows i).map (Value.int .i64))
/-- That they lie apart. -/
structure Pl.Apart (p : Pl) (n : Nat) (nv : Nat → Value) : Prop where
  low : p.nb < p.L ∧ p.gb < p.L ∧ p.gs < p.L ∧ p.bn < p.L ∧ p.bp < p.L
  bp : p.nb ≠ p.bp ∧ p.gb ≠ p.bp ∧ p.gs ≠ p.bp ∧ p.bn ≠ p.bp
  top : p.L ≤ p.H ∧ p.H ≤ p.ob ∧ p.H ≤ p.bo ∧ p.H ≤ p.cb
  bo : p.ob ≠ p.bo ∧ p.cb ≠ p.bo
  mid : ∀ i, i < n → ∀ b, (nv i).ownBlock = some b → p.L ≤ b ∧ b < p.H
  two : ∀ i j, i < n → j < n → i ≠ j → ∀ b, (nv i).ownBlock = some b → (nv j).ownBlock ≠ some b

theorem rowIs_grown {w w' : World} {b : Nat} {t : TypeId} {n : Nat} {f : Nat → Value} {row : Option Nat} (h : w.rowIs b t n f) (hg : w.grownBy w' row) (hne : some b ≠ row) : w'.rowIs b t n f := h.of_block (hg.block b h.lt hne)

theorem gset (w : World) (b i : Nat) (v : Value) : w.grownBy (w.setCell ⟨b, i, none⟩ v) (some b) :=
  ⟨rfl, rfl, rfl, by simp [World.setCell], fun k _ hne => blk_setCell_other _ _ _ _ (fun e => hne (by rw [e]))⟩
theorem far_cell {w : World} {a b : Addr} {v u : Value} (h : w.cell? a = some v) (hne : a.block ≠ b.block) : (w.setCell b u).drew.cell? a = some v := (World.cell?_setCell_far w b a u (fun e => hne e.symm)).trans h
/-- Behind a store of 'open'. -/
theorem GS.setOpen {n : Nat} {p : Pl} {op : Nat → Bool} {ps : Nat → Int} {nv : Nat → Value} {rows : Nat → List Int} {w : World} (h : GS n p op ps nv rows w) (ha : p.Apart n nv) (i : Nat) (b : Bool) : GS n p (upd op i b) ps nv rows (w.setCell ⟨p.bo, i, none⟩ (.bool b)) := by
  obtain ⟨l1, l2, l3, l4, l5⟩ := ha.low
  obtain ⟨t1, t2, t3, t4⟩ := ha.top
  have hg : w.grownBy (w.setCell ⟨p.bo, i, none⟩ (.bool b)) (some p.bo) := gset _ _ _ _
  have ne : ∀ x, x ≠ p.bo → some x ≠ some p.bo := fun x h e => h (by simpa using e)
  exact ⟨hg.cell h.nb (ne _ (by show p.nb ≠ p.bo; omega)), hg.cell h.gb (ne _ (by show p.gb ≠ p.bo; omega)), hg.cell h.g0 (ne _ (by show p.gs ≠ p.bo; omega)), hg.cell h.g1 (ne _ (by show p.gs ≠ p.bo; omega)), hg.cell h.ob (ne _ ha.bo.1), hg.cell h.cb (ne _ ha.bo.2),
    (h.open_.set i (.bool b)).congr fun j _ => by unfold upd; split <;> rfl,
    rowIs_grown h.num hg (ne _ (by omega)), rowIs_grown h.next hg (ne _ (by omega)),
    fun j hj => (h.row j hj).kept hg (by
      cases e : (nv j).ownBlock with
      | none => exact .inl rfl
      | some b => refine .inr (fun e2 => ?_); have := ha.mid j hj b e; simp at e2; omega)⟩
/-- Behind a store of a number. -/
theorem GS.setNum {n : Nat} {p : Pl} {op : Nat → Bool} {ps : Nat → Int} {nv : Nat → Value} {rows : Nat → List Int} {w : World} (h : GS n p op ps nv rows w) (ha : p.Apart n nv) (i : Nat) (v : Int) : GS n p op (upd ps i v) nv rows (w.setCell ⟨p.bp, i, none⟩ (.int .i64 v)) := by
  obtain ⟨l1, l2, l3, l4, l5⟩ := ha.low
  obtain ⟨t1, t2, t3, t4⟩ := ha.top
  have hg : w.grownBy (w.setCell ⟨p.bp, i, none⟩ (.int .i64 v)) (some p.bp) := gset _ _ _ _
  have ne : ∀ x, x ≠ p.bp → some x ≠ some p.bp := fun x h e => h (by simpa using e)
  exact ⟨hg.cell h.nb (ne _ ha.bp.1), hg.cell h.gb (ne _ ha.bp.2.1), hg.cell h.g0 (ne _ ha.bp.2.2.1), hg.cell h.g1 (ne _ ha.bp.2.2.1), hg.cell h.ob (ne _ (by show p.ob ≠ p.bp; omega)), hg.cell h.cb (ne _ (by show p.cb ≠ p.bp; omega)),
    rowIs_grown h.open_ hg (ne _ (by omega)),
    (h.num.set i (.int .i64 v)).congr fun j _ => by unfold upd; split <;> rfl,
    rowIs_grown h.next hg (ne _ ha.bp.2.2.2),
    fun j hj => (h.row j hj).kept hg (by
      cases e : (nv j).ownBlock with
      | none => exact .inl rfl
      | some b => refine .inr (fun e2 => ?_); have := ha.mid j hj b e; simp at e2; omega)⟩
/-- Behind a sort of a row. -/
theorem GS.sortRow {n : Nat} {p : Pl} {op : Nat → Bool} {ps : Nat → Int} {nv : Nat → Value} {rows : Nat → List Int} {w w' : World} (h : GS n p op ps nv rows w) (ha : p.Apart n nv) {i : Nat} (hi : i < n) {zs : List Int} (ho : w'.ownsRow p.L 3 1 (nv i) zs.length (zs.map (Value.int .i64))) (hg : w.grownBy w' (nv i).ownBlock) : GS n p op ps nv (upd rows i zs) w' := by
  obtain ⟨l1, l2, l3, l4, l5⟩ := ha.low
  obtain ⟨t1, t2, t3, t4⟩ := ha.top
  have ne : ∀ x, x < p.L ∨ p.H ≤ x → some x ≠ (nv i).ownBlock := fun x h e => by have := ha.mid i hi x e.symm; omega
  exact ⟨hg.cell h.nb (ne _ (.inl l1)), hg.cell h.gb (ne _ (.inl l2)), hg.cell h.g0 (ne _ (.inl l3)), hg.cell h.g1 (ne _ (.inl l3)), hg.cell h.ob (ne _ (.inr t2)), hg.cell h.cb (ne _ (.inr t4)),
    rowIs_grown h.open_ hg (ne _ (.inr t3)), rowIs_grown h.num hg (ne _ (.inl l5)), rowIs_grown h.next hg (ne _ (.inl l4)),
    fun j hj => by
      by_cases e : j = i
      · subst e; rw [upd_same]; exact ho
      · rw [upd_ne _ _ e]
        refine (h.row j hj).kept hg ?_
        cases e3 : (nv j).ownBlock with
        | none => exact .inl rfl
        | some b => exact .inr (fun e2 => ha.two j i hj hi e b e3 e2.symm)⟩
theorem GS.drew {n : Nat} {p : Pl} {op : Nat → Bool} {ps : Nat → Int} {nv : Nat → Value} {rows : Nat → List Int} {w : World} (h : GS n p op ps nv rows w) : GS n p op ps nv rows w.drew :=
  ⟨h.nb, h.gb, h.g0, h.g1, h.ob, h.cb, h.open_, h.num, h.next, h.row⟩

/-- What count answers. -/
def CPost (es : List (Nat × Nat)) (n : Nat) (p : Pl) (B : Nat) (W : World) (op : Nat → Bool) (ps : Nat → Int) (nv : Nat → Value) (i : Nat) (e : Ending) (w' : World) : Prop :=
  Below B W w' ∧ ((∃ ps' rows', e = .returned (.bool true) ∧ PInv es n op ps' rows' ∧ 0 ≤ ps' i ∧ (∀ j, 0 ≤ ps j → 0 ≤ ps' j) ∧ GS n p op ps' nv rows' w') ∨ (e = .returned (.bool false) ∧ ¬ Acy es))

set_option maxHeartbeats 1000000 in
set_option maxRecDepth 100000 in
theorem count_any (es : List (Nat × Nat)) (n : Nat) (hn : n ≤ 12) (hes : ∀ e ∈ es, e.1 < n ∧ e.2 < n) (hnd : es.Nodup) (p : Pl) (nv : Nat → Value) (ha : p.Apart n nv) (B : Nat) (hB : B ≤ p.L ∧ B ≤ p.bp) (W : World) :
    ∀ (m i : Nat) (op : Nat → Bool) (ps : Nat → Int) (rows : Nat → List Int) (w : World), i < n → unv n op ps < m → PInv es n op ps rows → (∀ j, j < n → op j = true → Plus es j i) → GS n p op ps nv rows w → Below B W w →
      Calls Try.prog 22 #[.int .i64 i, .pointer (some ⟨p.ob, 0, none⟩), .pointer (some ⟨p.gb, 0, none⟩), .pointer (some ⟨p.nb, 0, none⟩), .pointer (some ⟨p.cb, 0, none⟩)] w (CPost es n p B W op ps nv i) := by
  intro m
  induction m with
  | zero =>
    intro i op ps rows w hi hm hinv hop hgs hbel
    omega
  | succ m ih =>
    intro i op ps rows w hi hm hinv hop hgs hbel
    have IH := Lib.hid ih; clear ih
    have HINV := Lib.hid hinv
    have HOP := Lib.hid hop
    have HGS := Lib.hid hgs
    have HBEL := Lib.hid hbel
    have c1 := hgs.ob
    have c2 := hgs.open_.cell hi
    have hi0 : (0 : Int) ≤ (i : Int) := by omega
    have hin : (i : Int) < (n : Int) := by omega
    obtain ⟨b, hb⟩ : ∃ b, b = op i := ⟨_, rfl⟩
    rw [← hb] at c2
    clear hinv hop hbel
    cases b with
    | true =>
      have HN := Lib.hid (show ¬ Acy es from (HOP.out i hi hb.symm).not_acy)
      clear hgs hb
      go_enter Try.func22, Try.ntmps22
      go_wp2_with fail
      go_ret
      exact ⟨HBEL.out, .inr ⟨rfl, HN.out⟩⟩
    | false =>
      have c3 := hgs.gb
      have c4 := hgs.g1
      have c5 := hgs.num.cell hi
      by_cases hps : 0 ≤ ps i
      · have hps1 : decide ((0 : Int) ≤ ps i) = true := decide_eq_true hps
        have HPS := Lib.hid hps
        obtain ⟨x, hx⟩ : ∃ x, x = ps i := ⟨_, rfl⟩
        rw [← hx] at c5 hps hps1
        clear hgs hb hx
        go_enter Try.func22, Try.ntmps22
        go_wp2_with fail
        go_ret
        exact ⟨HBEL.out, .inl ⟨ps, rows, rfl, HINV.out, HPS.out, fun _ h => h, HGS.out⟩⟩
      · have hps1 : decide ((0 : Int) ≤ ps i) = false := decide_eq_false hps
        have hx1 : ps i = -1 := by
          rcases HINV.out.num i hi with h | ⟨h, _⟩
          · exact h
          · omega
        rw [hx1] at c5
        have HB := Lib.hid hb
        have HUN := Lib.hid (unv_lt hi hb.symm (show ps i < 0 by omega))
        have HM1 := Lib.hid (HINV.out.mark hi hb.symm (show ps i < 0 by omega))
        have hfo := hgs.open_.frozen i
        obtain ⟨w1, hw1⟩ : ∃ w1, w1 = w.setCell ⟨p.bo, i, none⟩ (.bool true) := ⟨_, rfl⟩
        have hgs1 := hgs.setOpen ha i true
        rw [← hw1] at hgs1
        have hrow : rows i = rawR es i := HINV.out.raw i hi hb.symm (by omega)
        have hor := hgs1.row i hi
        rw [hrow] at hor
        have HSO := Lib.hid (sort_own w1 p.L (nv i) (rawR es i) (by have := raw_len_le hes hnd i; omega) hor)
        rw [sort_raw hes hnd i] at HSO
        have d3 := hgs1.gb
        have d4 := hgs1.g0
        have d5 := hgs1.next.cell hi
        have HGS1 := Lib.hid hgs1
        have HB1 := Lib.hid (show Below B W w1 by rw [hw1]; exact HBEL.out.setCell (by show B ≤ p.bo; have := ha.top; omega) _)
        have hw1' := hw1.symm
        clear hgs hb hps hx1 hgs1 hrow hor HGS hw1
        go_enter Try.func22, Try.ntmps22
        go_wp2_with fail
        refine HSO.out.mono ?_
        clear HSO
        rintro e w2 ⟨rfl, ho2, hg2⟩
        have hgs2 := HGS1.out.sortRow ha hi ho2 hg2
        have HB2 := Lib.hid (HB1.out.grown hg2 (by have := HB1.out.size; have h1 := HGS1.out.num.lt; have := hB.2; omega) (fun k hk => by have := ha.mid i hi k hk; have := hB.1; omega))
        obtain ⟨ro, rc, hnv⟩ := owns_shape ho2
        have HNV := Lib.hid hnv
        have e1 := hgs2.nb
        have e2 := hgs2.gb
        have e3 := hgs2.g0
        have e4 := hgs2.next.cell hi
        rw [hnv] at e4
        have HGS2 := Lib.hid hgs2
        have hsl := sc_len es n i
        obtain ⟨sl, hsle⟩ : ∃ sl, sl = (sc es n i).length := ⟨_, rfl⟩
        rw [← hsle] at e4 hsl HNV
        have HSL := Lib.hid hsle
        have HSL2 := Lib.hid (show sl = (succs es n i).length by rw [hsle]; simp [sc])
        clear ho2 hg2 hnv hgs2 hsle d3 d4 d5 c1 c2 c3 c4 c5 hfo hw1' HGS1 HB1
        go_upto_if 43 with fail
        go_cut [7] from 44 to 44 (fun kv wx => ∃ k0 : Nat, kv = .int .i64 (k0 : Int) ∧ k0 ≤ 1 ∧ RowKit.Hid (k0 = if i + 1 = n then 1 else 0) ∧ wx = w2)
        case first =>
          by_cases hl : i + 1 = n
          · have hb : ((i : Int) == (n : Int) - 1) = true := by rw [beq_iff_eq]; omega
            have HE := Lib.hid (show 1 = if i + 1 = n then 1 else 0 by rw [if_pos hl])
            clear hl
            go_wp2_with fail
            go_meet
            exact ⟨1, rfl, by omega, HE, rfl⟩
          · have hb : ((i : Int) == (n : Int) - 1) = false := by rw [beq_eq_false_iff_ne]; omega
            have HE := Lib.hid (show 0 = if i + 1 = n then 1 else 0 by rw [if_neg hl])
            clear hl
            go_wp2_with fail
            go_meet
            exact ⟨0, rfl, by omega, HE, rfl⟩
        case rest =>
          obtain ⟨k0, rfl, hk0, hke, rfl⟩ := hcut
          have HKE := Lib.hid hke.out
          obtain ⟨w2, hw2⟩ : ∃ w2, w2 = wc := ⟨_, rfl⟩
          subst hw2
          clear hke
          go_wp2_with fail
          go_loopw [7, 52] (fun kv qv wr => ∃ (q k : Nat) (ps' : Nat → Int) (rows' : Nat → List Int), qv = .int .i64 (q : Int) ∧ q ≤ sl ∧ kv = .int .i64 (k : Int) ∧ RowKit.Hid (k = k0 + npSum es n ((succs es n i).take q)) ∧ RowKit.Hid (PInv es n (upd op i true) ps' rows') ∧ RowKit.Hid (∀ j, j < q → 0 ≤ ps' ((succs es n i).getD j 0)) ∧ RowKit.Hid (∀ j, 0 ≤ ps j → 0 ≤ ps' j) ∧ RowKit.Hid (GS n p (upd op i true) ps' nv rows' wr) ∧ RowKit.Hid (Below B W wr)) (fun _ qv _ => sl - (intOf qv).toNat)
          case atStart => exact ⟨0, k0, ps, upd rows i (sc es n i), rfl, by omega, rfl, Lib.hid (by simp [npSum]), HM1, Lib.hid (fun j hj => by omega), Lib.hid (fun _ h => h), HGS2, HB2⟩
          clear e1 e2 e3 e4 HGS2 HB2 HM1
          case round =>
            obtain ⟨q, k, ps', rows', rfl, hq, rfl, hk, hpi, hdone, hmono, hgs, hbel⟩ := hrel
            have HK := Lib.hid hk.out
            have HPI := Lib.hid hpi.out
            have HD := Lib.hid hdone.out
            have HMO := Lib.hid hmono.out
            have HGS := Lib.hid hgs.out
            have HBE := Lib.hid hbel.out
            have hkb : k ≤ 21505924728445 := by
              rw [HK.out]
              have h1 := npSum_le es n hn ((succs es n i).take q)
              have h2 : ((succs es n i).take q).length ≤ 12 := by have := succs_len es n i; simp; omega
              omega
            have hrow : rows' i = sc es n i := HPI.out.seen i hi (.inl (upd_same _ _ _))
            clear hk hpi hdone hmono hgs hbel
            by_cases hql : q < sl
            · have hql2 : q < (succs es n i).length := by rw [← HSL2.out]; exact hql
              have hor := HGS.out.row i hi
              rw [hrow, HNV.out] at hor
              rw [← HSL.out] at hor
              obtain ⟨b3, o3, hro, hce⟩ := (IntsAt.of_owns hor) q (by rw [← HSL.out]; exact hql)
              subst hro
              obtain ⟨j, hj⟩ : ∃ j, j = (succs es n i).getD q 0 := ⟨_, rfl⟩
              have hjv : (sc es n i).getD q 0 = (j : Int) := by rw [hj]; simp [sc, hql2]
              rw [hjv] at hce
              have hjm : j ∈ succs es n i := by rw [hj]; simp [hql2]
              have hjn := (mem_succs.1 hjm).1
              have hje := (mem_succs.1 hjm).2
              have f1 := HGS.out.cb
              have HIH := Lib.hid (IH.out j (upd op i true) ps' rows' wr hjn (by have h1 := unv_le (n := n) (op := upd op i true) (op' := upd op i true) (fun _ h => h) HMO.out; have := HUN.out; omega) HPI.out (fun j' hj' ho => by
                by_cases e : j' = i
                · subst e; exact ⟨j, hje, .refl j⟩
                · rw [upd_ne _ _ e] at ho; exact Plus.of (HOP.out j' hj' ho).rch hje) HGS.out HBE.out)
              have HJ := Lib.hid hj
              have HTS := Lib.hid (take_sum es n i q hql2)
              rw [← hj] at HTS
              clear hor hj hjv hjm hje hrow HGS HPI
              go_wp2_with fail
              refine HIH.out.mono ?_
              clear HIH f1 hce
              rintro e w3 ⟨hb3, ⟨ps3, rows3, rfl, hi3, hd3, hm3, hg3⟩ | ⟨rfl, hno⟩⟩
              · have g1 := hg3.gb
                have g2 := hg3.g1
                have g3 := hg3.num.cell hjn
                have hnp := (np_of_done hi3 hjn hd3).1
                rw [hnp] at g3
                have hnl := np_le es n j hn
                obtain ⟨z, hz⟩ : ∃ z, z = np es n j := ⟨_, rfl⟩
                rw [← hz] at g3 hnl HTS
                have hjn0 : (j : Int) < (n : Int) := by omega
                have HR := Lib.hid (And.intro hi3 (And.intro hm3 hg3))
                have HD3 := Lib.hid hd3
                have HB3 := Lib.hid hb3
                clear hz hnp hi3 hm3 hg3 hd3 hb3
                go_wp2_with fail
                go_roundw
                case rel => exact ⟨q + 1, k + z, ps3, rows3, by go_num, by omega, by go_num, Lib.hid (by rw [HTS.out, HK.out]; omega), Lib.hid HR.out.1, Lib.hid (fun j' hj' => by
                  by_cases e : j' = q
                  · rw [e, ← HJ.out]; exact HD3.out
                  · exact HR.out.2.1 _ (HD.out j' (by omega))), Lib.hid (fun j' h => HR.out.2.1 _ (HMO.out j' h)), Lib.hid HR.out.2.2, HB3⟩
                case measure => simp [intOf]; omega
              · have HNO := Lib.hid (And.intro hb3 hno)
                clear hb3 hno
                go_wp2_with fail
                go_ret
                exact ⟨HNO.out.1, .inr ⟨rfl, HNO.out.2⟩⟩
            · obtain rfl : q = sl := by omega
              have hall : ∀ k, k ∈ succs es n i → 0 ≤ ps' k := fun k hk => by
                obtain ⟨j, hj, rfl⟩ := List.mem_iff_getElem.1 hk
                have := HD.out j (by rw [HSL2.out]; exact hj)
                simpa [hj] using this
              have hgood : Go.Mine.Path.Good es i := Go.Mine.Path.Good.mk fun k he => (np_of_done HPI.out (hes _ he).2 (hall k (mem_succs.2 ⟨(hes _ he).2, he⟩))).2.1
              have hknp : k = np es n i := by
                rw [HK.out, np_eq hes hgood hi, HKE.out, HSL2.out, List.take_length]
              have HFI := Lib.hid (HPI.out.fin hi HB.out.symm hes hall (v := (k : Int)) (by rw [hknp]))
              have f1 := HGS.out.ob
              have f2 := HGS.out.gb
              have f3 := HGS.out.g1
              have f4 := HGS.out.open_.cell hi
              have f5 := HGS.out.num.cell hi
              have f6 := HGS.out.open_.frozen i
              have f7 := HGS.out.num.frozen i
              have n1 : p.ob ≠ p.bo := ha.bo.1
              have n2 : p.gb ≠ p.bp := ha.bp.2.1
              have n3 : p.gs ≠ p.bp := ha.bp.2.2.1
              have n4 : p.ob ≠ p.bp := by have := ha.low; have := ha.top; omega
              have n5 : p.gb ≠ p.bo := by have := ha.low; have := ha.top; omega
              have n6 : p.gs ≠ p.bo := by have := ha.low; have := ha.top; omega
              have n7 : p.bo ≠ p.bp := by have := ha.low; have := ha.top; omega
              have HGF := Lib.hid ((HGS.out.setOpen ha i false).setNum ha i (k : Int)).drew
              rw [show upd (upd op i true) i false = op from funext fun j => by
                by_cases e : j = i
                · rw [e, upd_same]; exact HB.out
                · rw [upd_ne _ _ e, upd_ne _ _ e]] at HGF
              clear hall hgood hknp hrow
              go_wp2_with fail
              go_region_held3 (fun w' => w'.cell? ⟨p.ob, 0, none⟩ = some (.slice (some ⟨p.bo, 0, none⟩) n n) ∧ w'.cell? ⟨p.gb, 0, none⟩ = some (.pointer (some ⟨p.gs, 0, none⟩)) ∧ w'.cell? ⟨p.gs, 1, none⟩ = some (.slice (some ⟨p.bp, 0, none⟩) n n)) (first | (go_keep; done) | (((try go_split_ands); refine ⟨?_, ?_, ?_⟩ <;> (first | assumption | (refine far_cell (by assumption) ?_; first | exact n1 | exact n2 | exact n3 | exact n4 | exact n5 | exact n6))))) (fail)
              all_goals
                go_wp2_with fail
                go_ret
                exact ⟨((HBE.out.setCell (by show B ≤ p.bo; have := ha.top; omega) _).setCell hB.2 _).drew, .inl ⟨upd ps' i (k : Int), rows', rfl, HFI.out, by rw [upd_same]; omega, fun j hj => by
                  by_cases e : j = i
                  · rw [e, upd_same]; omega
                  · rw [upd_ne _ _ e]; exact HMO.out j hj, HGF.out⟩⟩
end Go.Proofs.Ytppbaiilhaagdaa
