/- path.checked, path.Count. No conditions. -/
import Derived.Test.YtppbaiilhaagdaaPath3
import Derived.Test.YtppbaiilhaagdaaCtnE
namespace Go.Proofs.Ytppbaiilhaagdaa
open Go.RowKit Go.Mine Go.Mine.Path Go.Mine.Flow Go.Deep

/-- The edges are right, none twice, and none comes back. -/
def pathOk (n : Int) (es : List (Int × Int)) : Prop := ok n es ∧ es.Nodup ∧ Acy (natE es)
theorem nodup_nat {es : List (Int × Int)} (h : ∀ e ∈ es, 0 ≤ e.1 ∧ 0 ≤ e.2) (hn : es.Nodup) : (natE es).Nodup := by
  unfold natE List.Nodup
  rw [List.pairwise_map]
  refine List.Pairwise.imp_of_mem ?_ hn
  rintro ⟨a, b⟩ ⟨c, d⟩ ha hc hne e
  have h1 := h _ ha
  have h2 := h _ hc
  simp only [Prod.mk.injEq] at e h1 h2
  exact hne (by congr 1 <;> omega)
theorem ok_nodup {n : Int} {es : List (Int × Int)} (h : ok n es) (hn : es.Nodup) : (natE es).Nodup := nodup_nat (fun e he => ⟨(h.2.2.2 e he).1, (h.2.2.2 e he).2.2.1⟩) hn
theorem take_nodup {es : List (Int × Int)} {q : Nat} (h : (es.take q).Nodup) (hq : q < es.length) (hn : es.getD q (0, 0) ∉ es.take q) : (es.take (q + 1)).Nodup := by
  rw [List.take_succ_eq_append_getElem hq, List.nodup_append]
  refine ⟨h, by simp, fun a ha b hb e => ?_⟩
  simp only [List.mem_singleton] at hb
  subst hb
  subst e
  exact hn (by simpa [hq] using ha)
theorem take_dup {es : List (Int × Int)} {q : Nat} (hq : q < es.length) (hn : es.getD q (0, 0) ∈ es.take q) : ¬ es.Nodup := fun h => by
  have h1 : (es.take (q + 1)).Nodup := h.sublist (List.take_sublist _ _)
  rw [List.take_succ_eq_append_getElem hq, List.nodup_append] at h1
  exact h1.2.2 _ hn es[q] (by simp) (by simp [hq])
theorem PairsAt.taken {w : World} {ao : Option Addr} {es : List (Int × Int)} (h : PairsAt w ao es) (q : Nat) : PairsAt w ao (es.take q) := by
  intro j hj
  simp only [List.length_take] at hj
  obtain ⟨b, o, h1, h2, h3⟩ := h j (by omega)
  have e : (es.take q).getD j (0, 0) = es.getD j (0, 0) := by
    simp only [List.getD_eq_getElem?_getD]
    rw [List.getElem?_take_of_lt (by omega)]
  exact ⟨b, o, h1, by rw [e]; exact h2, by rw [e]; exact h3⟩

/-- What checked answers. -/
def KPost (n : Int) (es : List (Int × Int)) (W : World) (e : Ending) (w' : World) : Prop :=
  Below W.heap.size W w' ∧ ((pathOk n es ∧ ∃ gs, e = .returned (.tuple #[.pointer (some ⟨gs, 0, none⟩), .nilIface]) ∧ GraphAt (natE es) n.toNat gs w') ∨
    (¬ pathOk n es ∧ ∃ c : Int, e = .returned (.tuple #[.pointer none, .iface 48 (.int .i64 c)]) ∧ (ok n es → c = 3) ∧ (¬ ok n es → c = efault n es)))
set_option maxHeartbeats 1000000 in
set_option maxRecDepth 100000 in
theorem checked_any (n : Int) (es : List (Int × Int)) (lo : Option Addr) (lc : Nat) (W : World) (hx : PairsAt W lo es) (hl : es.length ≤ maxLen) (hc : lo ≠ none → es.length ≤ lc) :
    Calls Try.prog 14 #[.int .i64 n, .slice lo es.length lc] W (KPost n es W) := by
  have HCK := Lib.hid (check_any n es lo lc W hx hl)
  have HX := Lib.hid (show ∀ w, Below W.heap.size W w → PairsAt w lo es from fun w hb => hx.below (Nat.le_refl _) hb)
  clear hx
  go_enter Try.func14, Try.ntmps14
  go_wp2_with fail
  refine HCK.out.mono ?_
  clear HCK
  rintro e w1 ⟨⟨hok, rfl⟩ | ⟨hno, rfl⟩, hb1⟩
  rotate_left
  · have HN := Lib.hid hno
    have HB := Lib.hid hb1
    obtain ⟨c, hc⟩ : ∃ c, c = efault n es := ⟨_, rfl⟩
    rw [← hc]
    have HC := Lib.hid hc
    clear hno hb1 hc
    go_wp2_with fail
    go_ret2
    exact ⟨HB.out, .inr ⟨fun h => HN.out h.1, c, rfl, fun h => absurd h HN.out, fun _ => HC.out⟩⟩
  obtain ⟨N, rfl⟩ := Int.eq_ofNat_of_zero_le (show 0 ≤ n by have := hok.1; omega)
  have hel : es.length ≤ 30 := hok.2.2.1
  have HOK := Lib.hid hok
  have HB1 := Lib.hid hb1
  clear hok hb1
  go_wp2_with fail
  go_loopw [18] (fun qv wr => ∃ q : Nat, qv = .int .i64 (q : Int) ∧ q ≤ es.length ∧ RowKit.Hid ((es.take q).Nodup) ∧ RowKit.Hid (Below W.heap.size W wr)) (fun qv _ => es.length - (intOf qv).toNat)
  case atStart => exact ⟨0, rfl, by omega, Lib.hid (by simp), HB1⟩
  case round =>
    obtain ⟨q, rfl, hq, hnd, hb⟩ := hrel
    have HND := Lib.hid hnd.out
    have HB := Lib.hid hb.out
    clear hnd hb
    by_cases hlt : q < es.length
    · obtain ⟨eb, eo, rfl, hce1, hce2⟩ := HX.out wr HB.out q hlt
      have hlc := hc (by simp)
      have hlcq : q ≤ lc := by omega
      obtain ⟨z, hz⟩ : ∃ z, z = es.getD q (0, 0) := ⟨_, rfl⟩
      rw [← hz] at hce1 hce2
      obtain ⟨x, y⟩ := z
      simp only at hce1 hce2
      obtain ⟨wr1, hwr1⟩ : ∃ wr1, wr1 = wr.alloc (.cells #[.int .i64 x, .int .i64 y] 32) := ⟨_, rfl⟩
      have k0 : wr1.cell? ⟨wr.heap.size, 0, none⟩ = some (.int .i64 x) := by rw [hwr1]; exact at_fst _ _ _ _ _ rfl
      have k1 : wr1.cell? ⟨wr.heap.size, 1, none⟩ = some (.int .i64 y) := by rw [hwr1]; exact at_snd _ _ _ _ _ rfl
      have HB2 := Lib.hid (show Below W.heap.size W wr1 by rw [hwr1]; exact below_al HB.out _)
      have hlen : (es.take q).length = q := by simp; omega
      have HCT := Lib.hid (show ∀ w, Below wr1.heap.size wr1 w → Calls Try.prog 17 #[.slice (some ⟨eb, eo, none⟩) q lc, .agg #[.int .i64 x, .int .i64 y]] w fun e w' => e = .returned (.bool (decide ((x, y) ∈ es.take q))) ∧ Below w.heap.size w w' from fun w hb => by
        have h := containsE_any (es.take q) x y (some ⟨eb, eo, none⟩) lc w (PairsAt.taken (HX.out w (HB2.out.trans (hb.mono HB2.out.size))) q) (by rw [hlen]; unfold maxLen; omega)
        rw [hlen] at h
        exact h)
      have HZ := Lib.hid hz
      obtain ⟨d, hd⟩ : ∃ d, d = decide ((x, y) ∈ es.take q) := ⟨_, rfl⟩
      rw [← hd] at HCT
      have HD := Lib.hid hd
      have hwr1' := hwr1.symm
      have hq0 : (0 : Int) ≤ (q : Int) := by omega
      have hqc : (q : Int) ≤ (lc : Int) := by omega
      clear hz hwr1 hlen hd
      go_wp2_with fail
      clear hwr1' hce1 hce2
      go_region_held3 (fun w' => w'.cell? ⟨wr.heap.size, 0, none⟩ = some (.int .i64 x) ∧ w'.cell? ⟨wr.heap.size, 1, none⟩ = some (.int .i64 y)) (first | (go_keep; done) | (exact ⟨(hb9.cell (World.block_lt_of_cell? wr1 _ k0)).trans k0, (hb9.cell (World.block_lt_of_cell? wr1 _ k1)).trans k1⟩))
        (first | (go_at_call 17; (with_reducible refine (HCT.out _ (Below.refl _ _).drew).mono ?_); rintro e w9 ⟨rfl, hb9⟩))
      have HB9 := Lib.hid (HB2.out.drew.trans (hb9.mono HB2.out.size))
      clear hb9
      cases d with
      | true =>
        have HN := Lib.hid (show ¬ pathOk N es from fun h => take_dup hlt (by rw [← HZ.out]; exact of_decide_eq_true HD.out.symm) h.2.1)
        go_wp2_with fail
        go_ret2
        exact ⟨HB9.out, .inr ⟨HN.out, 3, rfl, fun _ => rfl, fun h => absurd HOK.out h⟩⟩
      | false =>
        have HN := Lib.hid (take_nodup HND.out hlt (by rw [← HZ.out]; exact of_decide_eq_false HD.out.symm))
        go_wp2_with fail
        go_roundw
        case rel => exact ⟨q + 1, by go_num, by omega, HN, HB9⟩
        case measure => simp [intOf]; omega
    · obtain rfl : q = es.length := by omega
      have hnd := HND.out
      rw [List.take_length] at hnd
      have HNN := Lib.hid hnd
      have HM := Lib.hid (made_any N es lo lc wr (HX.out wr HB.out) HOK.out (ok_nodup HOK.out hnd))
      clear hnd
      go_wp2_with fail
      refine HM.out.mono ?_
      clear HM
      rintro e w2 ⟨hb2, ⟨hno, rfl⟩ | ⟨hacy, gs, rfl, hg⟩⟩
      · have HN := Lib.hid (show ¬ pathOk N es from fun h => hno h.2.2)
        have HB2 := Lib.hid (HB.out.trans (hb2.mono HB.out.size))
        clear hno hb2
        go_wp2_with fail
        go_ret2
        exact ⟨HB2.out, .inr ⟨HN.out, 3, rfl, fun _ => rfl, fun h => absurd HOK.out h⟩⟩
      · have HP := Lib.hid (show pathOk N es from ⟨HOK.out, HNN.out, hacy⟩)
        have HB2 := Lib.hid (HB.out.trans (hb2.mono HB.out.size))
        have HG := Lib.hid hg
        clear hacy hb2 hg
        go_wp2_with fail
        go_ret2
        exact ⟨HB2.out, .inl ⟨HP.out, gs, rfl, HG.out⟩⟩

theorem nat_ok {n : Int} {es : List (Int × Int)} (h : ok n es) : ∀ e ∈ natE es, e.1 < n.toNat ∧ e.2 < n.toNat := fun e he => by
  simp only [natE, List.mem_map] at he
  obtain ⟨⟨x, y⟩, hm, rfl⟩ := he
  have := h.2.2.2 _ hm
  simp only at this ⊢
  omega
/-- What Count answers. -/
def CntPost (n : Int) (es : List (Int × Int)) (W : World) (e : Ending) (w' : World) : Prop :=
  Below W.heap.size W w' ∧ ((pathOk n es ∧ e = .returned (.tuple #[.int .i64 (np (natE es) n.toNat 0 : Nat), .nilIface])) ∨
    (¬ pathOk n es ∧ ∃ c : Int, e = .returned (.tuple #[.int .i64 0, .iface 48 (.int .i64 c)]) ∧ (ok n es → c = 3) ∧ (¬ ok n es → c = efault n es)))
set_option maxHeartbeats 1000000 in
set_option maxRecDepth 100000 in
theorem pcount_any (n : Int) (es : List (Int × Int)) (lo : Option Addr) (lc : Nat) (W : World) (hx : PairsAt W lo es) (hl : es.length ≤ maxLen) (hc : lo ≠ none → es.length ≤ lc) :
    Calls Try.prog 6 #[.int .i64 n, .slice lo es.length lc] W (CntPost n es W) := by
  have HK := Lib.hid (checked_any n es lo lc W hx hl hc)
  clear hx
  go_enter Try.func6, Try.ntmps6
  go_wp2_with fail
  refine HK.out.mono ?_
  clear HK
  rintro e w1 ⟨hb, ⟨hok, gs, rfl, bn, bp, h1, h2, h3, h4⟩ | ⟨hno, c, rfl, hc1, hc2⟩⟩
  · have h0 : 0 < n.toNat := by have := hok.1.1; omega
    have h5 := h4 0 h0
    have HP := Lib.hid hok
    have HB := Lib.hid hb
    have h0i : (0 : Int) < (n.toNat : Int) := by omega
    obtain ⟨N, hN⟩ : ∃ N, N = n.toNat := ⟨_, rfl⟩
    rw [← hN] at h0 h2 h5 h0i
    obtain ⟨z, hz⟩ : ∃ z, z = np (natE es) N 0 := ⟨_, rfl⟩
    rw [← hz] at h5
    have HZ := Lib.hid (show z = np (natE es) n.toNat 0 by rw [hz, hN])
    clear hok hb h1 h3 h4 hz hN
    go_wp2_with fail
    go_ret2
    exact ⟨HB.out, .inl ⟨HP.out, by rw [← HZ.out]; rfl⟩⟩
  · have HN := Lib.hid (And.intro hno (And.intro hc1 hc2))
    have HB := Lib.hid hb
    clear hno hc1 hc2 hb
    go_wp2_with fail
    go_ret2
    exact ⟨HB.out, .inr ⟨HN.out.1, c, rfl, HN.out.2.1, HN.out.2.2⟩⟩
end Go.Proofs.Ytppbaiilhaagdaa
