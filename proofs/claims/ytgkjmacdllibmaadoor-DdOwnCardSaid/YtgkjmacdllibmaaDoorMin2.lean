/- dd.Min: whatever is asked, as long as the asker tells a function of the list and leaves what lay there. -/
import Derived.Test.YtgkjmacdllibmaaDoorConcat
import Derived.Test.YtgkjmacdllibmaaDoorDd
import Derived.Deep.CutRange
import Derived.Deep.RegionHeld3
namespace Go.Proofs.YtgkjmacdllibmaaDoor
open Go.RowKit Go.Mine Go.Mine.Dd

/-- No piece can be missed. -/
def NoCut (F : List Int → Bool) (m : List Int) (sz : Nat) : Prop := ∀ p, p * sz < m.length → F (cut m (p * sz) sz) = false
/-- The first piece that can be missed. -/
def FirstCut (F : List Int → Bool) (m : List Int) (sz : Nat) (m' : List Int) : Prop := ∃ p, p * sz < m.length ∧ m' = cut m (p * sz) sz ∧ F m' = true ∧ ∀ p', p' < p → F (cut m (p' * sz) sz) = false
theorem FirstCut.one {F : List Int → Bool} {m m1 m2 : List Int} {sz : Nat} (h1 : FirstCut F m sz m1) (h2 : FirstCut F m sz m2) : m1 = m2 := by
  obtain ⟨p, a1, rfl, a3, a4⟩ := h1
  obtain ⟨q, b1, rfl, b3, b4⟩ := h2
  rcases Nat.lt_trichotomy p q with h | h | h
  · rw [b4 p h] at a3; cases a3
  · rw [h]
  · rw [a4 q h] at b3; cases b3
theorem FirstCut.no {F : List Int → Bool} {m m1 : List Int} {sz : Nat} (h1 : FirstCut F m sz m1) (h2 : NoCut F m sz) : False := by
  obtain ⟨p, a1, rfl, a3, a4⟩ := h1
  rw [h2 p a1] at a3
  cases a3
/-- What Min comes to, step by step. -/
inductive Runs (F : List Int → Bool) : List Int → Nat → List Int → Prop
  | nil {m : List Int} {n : Nat} : m.length = 0 → Runs F m n m
  | done {m : List Int} {n q : Nat} : m.length ≠ 0 → q = min n m.length → q = m.length → NoCut F m ((m.length + q - 1) / q) → Runs F m n m
  | less {m m' r : List Int} {n q : Nat} : m.length ≠ 0 → q = min n m.length → FirstCut F m ((m.length + q - 1) / q) m' → Runs F m' (max (q - 1) 2) r → Runs F m n r
  | more {m r : List Int} {n q : Nat} : m.length ≠ 0 → q = min n m.length → q ≠ m.length → NoCut F m ((m.length + q - 1) / q) → Runs F m (q * 2) r → Runs F m n r
theorem Runs.one {F : List Int → Bool} {m r : List Int} {n : Nat} (h : Runs F m n r) : ∀ {r' : List Int}, Runs F m n r' → r = r' := by
  induction h with
  | nil h0 =>
    intro r' h'
    cases h' with
    | nil _ => rfl
    | done h _ _ _ => exact absurd h0 h
    | less h _ _ _ => exact absurd h0 h
    | more h _ _ _ _ => exact absurd h0 h
  | done h0 hq he hn =>
    intro r' h'
    subst hq
    cases h' with
    | nil _ => rfl
    | done _ _ _ _ => rfl
    | less _ hq' hf _ => subst hq'; exact (hf.no hn).elim
    | more _ hq' hne _ _ => subst hq'; exact absurd he hne
  | less h0 hq hf _ ih =>
    intro r' h'
    subst hq
    cases h' with
    | nil h => exact absurd h h0
    | done _ hq' _ hn => subst hq'; exact (hf.no hn).elim
    | less _ hq' hf' hr => subst hq'; obtain rfl := hf.one hf'; exact ih hr
    | more _ hq' _ hn _ => subst hq'; exact (hf.no hn).elim
  | more h0 hq hne hn _ ih =>
    intro r' h'
    subst hq
    cases h' with
    | nil h => exact absurd h h0
    | done _ hq' he _ => subst hq'; exact absurd he hne
    | less _ hq' hf _ => subst hq'; exact (hf.no hn).elim
    | more _ hq' _ _ hr => subst hq'; exact ih hr

/-- What Min tells. -/
def MinPost (F : List Int → Bool) (l : List Int) (B : Nat) (e : Ending) (w' : World) : Prop :=
  (12 < l.length ∧ e = .returned (.tuple #[.slice none 0 0, .iface 31 (.int .i64 4)])) ∨
  (l.length ≤ 12 ∧ F l = false ∧ e = .returned (.tuple #[.slice none 0 0, .iface 31 (.int .i64 2)])) ∨
  (l.length ≤ 12 ∧ F l = true ∧ ∃ v m, e = .returned (.tuple #[v, .nilIface]) ∧ Least F l m ∧ Runs F l 2 m ∧ w'.ownsRow B 3 1 v m.length (m.map (Value.int .i64)))

def lenV : Value → Nat
  | .slice _ n _ => n
  | _ => 0

theorem owns_ints_none {w : World} {B n cap : Nat} {e : TypeId} {ao : Option Addr} {cs : List Value} (h : w.ownsRow B e 1 (.slice ao n cap) n cs) : ao = none → n = 0 := by
  intro h0
  subst h0
  rcases h.2 with ⟨h1, h2⟩ | ⟨g, cap', cur, h1, _⟩
  · exact h2
  · cases h1

theorem owns_cap {w : World} {B n cap : Nat} {e : TypeId} {ao : Option Addr} {cs : List Value} (h : w.ownsRow B e 1 (.slice ao n cap) n cs) : n ≤ cap := by
  rcases h.2 with ⟨h1, h2⟩ | ⟨g, cap', cur, h1, _, _, hnc, _⟩
  · omega
  · cases h1; exact hnc

/-- The head of a slice, and what is behind a place. -/
theorem IntsAt.take {w : World} {ao : Option Addr} {xs : List Int} (h : IntsAt .i64 w ao xs) (k : Nat) : IntsAt .i64 w ao (xs.take k) := by
  intro j hj
  rw [List.length_take] at hj
  obtain ⟨b, o, h1, h2⟩ := h j (by omega)
  refine ⟨b, o, h1, ?_⟩
  rw [h2]
  simp [List.getElem?_take, show j < k by omega]
theorem IntsAt.drop {w : World} {b o : Nat} {xs : List Int} (h : IntsAt .i64 w (some ⟨b, o, none⟩) xs) (k : Nat) : IntsAt .i64 w (some ⟨b, o + k, none⟩) (xs.drop k) := by
  intro j hj
  rw [List.length_drop] at hj
  obtain ⟨b', o', h1, h2⟩ := h (k + j) (by omega)
  simp only [Option.some.injEq, Addr.mk.injEq, and_true] at h1
  obtain ⟨rfl, rfl⟩ := h1
  refine ⟨b, o + k, rfl, ?_⟩
  rw [Nat.add_assoc, h2]
  simp

theorem rest_of {wr : World} {B g og cap : Nat} {ls : List Int} (hom : wr.ownsRow B 3 1 (.slice (some ⟨g, og, none⟩) ls.length cap) ls.length (ls.map (Value.int .i64))) (h12 : ls.length ≤ 12) (j hi : Nat) (hj : j ≤ ls.length) (a2 : Option Addr) (n2 c2 : Nat) (hn2 : n2 = ls.length - hi)
    (h2 : IntsAt .i64 wr a2 (ls.drop hi)) (h2n : a2 = none → n2 = 0) :
    Calls Tryd.prog 19 #[.slice (some ⟨wr.heap.size, 0, none⟩) 2 2] (wr.alloc (.cells #[.slice (some ⟨g, og, none⟩) j cap, .slice a2 n2 c2] 22)).drew fun e w' => ∃ v', e = .returned v' ∧
      w'.ownsRow wr.heap.size 3 1 v' (ls.take j ++ ls.drop hi).length ((ls.take j ++ ls.drop hi).map (Value.int .i64)) ∧ Below wr.heap.size wr w' := by
  subst hn2
  have hb : Below wr.heap.size wr (wr.alloc (.cells #[.slice (some ⟨g, og, none⟩) j cap, .slice a2 (ls.length - hi) c2] 22)).drew := ((Below.refl _ _).alloc (Nat.le_refl _) _).drew
  have e1 : (ls.take j).length = j := by rw [List.length_take]; omega
  have e2 : (ls.drop hi).length = ls.length - hi := List.length_drop
  refine (concat_two wr.heap.size (some ⟨g, og, none⟩) a2 cap c2 (ls.take j) (ls.drop hi) _ ?_ ?_ ?_ ?_ (fun h => by cases h) ?_ (by omega)).mono ?_
  · rw [e1]; simp [go_sem]
  · rw [e2]; simp [go_sem]
  · exact (IntsAt.take (IntsAt.of_owns hom) j).below (Nat.le_refl _) hb
  · exact h2.below (Nat.le_refl _) hb
  · rw [e2]; exact h2n
  · rintro e w' ⟨v', rfl, ho, hb'⟩
    refine ⟨v', rfl, ?_, hb.trans (hb'.mono hb.size)⟩
    rw [List.length_append]
    exact owns_mono ho hb.size

theorem IntsAt.short {w : World} {ao : Option Addr} {xs : List Int} (h : xs.length = 0) : IntsAt .i64 w ao xs := by
  intro j hj; omega

theorem size_le {n q : Nat} (h1 : 1 ≤ q) : (n + q - 1) / q ≤ n := by
  rw [← Nat.lt_succ_iff, Nat.div_lt_iff_lt_mul (by omega), Nat.succ_mul]
  have := Nat.le_mul_of_pos_right n (show 0 < q by omega)
  omega

theorem no_cut {F : List Int → Bool} {m : List Int} {sz j : Nat} (hj : ¬ j < m.length) (h : ∃ p, j = p * sz ∧ ∀ p', p' < p → F (cut m (p' * sz) sz) = false) : NoCut F m sz := by
  obtain ⟨p, hp, hall⟩ := h
  intro p' hp'
  refine hall p' ?_
  rcases Nat.lt_or_ge p' p with h1 | h1
  · exact h1
  · have := Nat.mul_le_mul_right sz h1
    omega
theorem size_one {n : Nat} (h1 : 1 ≤ n) : (n + n - 1) / n = 1 := Nat.div_eq_of_lt_le (by omega) (by omega)

set_option maxRecDepth 100000 in
set_option maxHeartbeats 1000000 in
theorem min_any (f : Nat) (cp : Array Value) (F : List Int → Bool) (l : List Int) (lo : Option Addr) (lc : Nat) (W : World) (hx : IntsAt .i64 W lo l) (hn : lo = none → l.length = 0) (hl : l.length ≤ maxLen)
    (hrun : ∀ (v : Value) (w : World), Sem.run Tryd.prog (callFunc f (#[v] ++ cp)) w = .ok (.enter f (#[v] ++ cp)) w)
    (hf : ∀ (w : World) (B : Nat) (v : Value) (xs : List Int), Below W.heap.size W w → W.heap.size ≤ B → B ≤ w.heap.size → w.ownsRow B 3 1 v xs.length (xs.map (Value.int .i64)) → xs.length ≤ 12 →
      Calls Tryd.prog f (#[v] ++ cp) w fun e w' => e = .returned (.bool (F xs)) ∧ Below B w w') :
    Calls Tryd.prog 6 #[.slice lo l.length lc, .func (.func f) #[] cp] W fun e w' => MinPost F l W.heap.size e w' ∧ Below W.heap.size W w' := by
  unfold maxLen at hl
  have HF := Lib.hid hf
  have HN := Lib.hid hn
  have HX := Lib.hid hx
  clear hf hx hn
  by_cases h12 : 12 < l.length
  · have hd : decide ((12 : Int) < (l.length : Int)) = true := by simp; omega
    go_enter Tryd.func6, Tryd.ntmps6
    go_wp2_with fail
    go_ret2
    exact ⟨.inl ⟨h12, rfl⟩, Below.refl _ _⟩
  · have hd : decide ((12 : Int) < (l.length : Int)) = false := by simp; omega
    have C1 := clone_own lo lc l W HX.out HN.out (by omega)
    go_enter Tryd.func6, Tryd.ntmps6
    go_wp2_with fail
    refine C1.mono ?_
    rintro e w1 ⟨v1, rfl, ho1, hb1⟩
    clear C1
    go_wp2_with fail
    refine (HF.out w1 W.heap.size v1 l hb1 (Nat.le_refl _) hb1.size ho1 (by omega)).mono ?_
    rintro e w2 ⟨rfl, hb2⟩
    have hb12 := hb1.trans hb2
    clear ho1 hb1 hb2
    cases hF : F l
    · have HFL := Lib.hid hF
      clear hF
      go_wp2_with fail
      go_ret2
      exact ⟨.inr (.inl ⟨by omega, HFL.out, rfl⟩), hb12⟩
    · have HFL := Lib.hid hF
      clear hF
      have C2 := clone_own lo lc l w2 (HX.out.below (Nat.le_refl _) hb12) HN.out (by omega)
      go_wp2_with fail
      refine C2.mono ?_
      rintro e w3 ⟨v3, rfl, ho3, hb3⟩
      have ho3' := owns_mono ho3 hb12.size
      have hb13 := hb12.trans (hb3.mono hb12.size)
      clear C2 ho3 hb3 hb12 hd
      have HB13 := Lib.hid hb13
      clear hb13
      go_wp2_with fail
      go_loopw [0, 6] (fun v n wr => ∃ (m : List Int) (k : Nat), wr.ownsRow W.heap.size 3 1 v m.length (m.map (Value.int .i64)) ∧ RowKit.Hid (m.Sublist l) ∧ RowKit.Hid (F m = true) ∧ n = .int .i64 k ∧ 2 ≤ k ∧ k ≤ 24 ∧ m.length ≤ 12 ∧ Below W.heap.size W wr ∧ RowKit.Hid (∀ r, Runs F m k r → Runs F l 2 r)) (fun v n _ => lenV v * 64 + (64 - (intOf n).toNat))
      case atStart => exact ⟨l, 2, ho3', Lib.hid (List.Sublist.refl _), HFL, rfl, by omega, by omega, by omega, HB13.out, Lib.hid fun _ h => h⟩
      case round =>
        obtain ⟨m, k, ho, hsub, hFm, rfl, hk2, hk24, hm12, hb, HRU⟩ := hrel
        obtain ⟨ao, cap, rfl⟩ := owns_shape ho
        by_cases hm0 : m.length = 0
        · go_wp2_with fail
          go_ret2
          exact ⟨.inr (.inr ⟨by omega, HFL.out, _, m, rfl, ⟨hFm.out, hsub.out, fun i hi => by omega⟩, HRU.out _ (.nil hm0), ho⟩), hb⟩
        · have hd0 : decide ((0 : Int) < (m.length : Int)) = true := by simp; omega
          have HO := Lib.hid ho
          clear ho
          go_upto_region 8 with fail
          go_cut [6] from 23 to 88 (fun v wx => (∃ q : Nat, v = .int .i64 q ∧ 1 ≤ q ∧ q ≤ m.length ∧ RowKit.Hid (q = k ∨ q = m.length) ∧ RowKit.Hid (q = min k m.length)) ∧ wr = wx)
          case first =>
            go_wp2_with fail
            all_goals go_meet
            · exact ⟨⟨m.length, rfl, by omega, by omega, Lib.hid (.inr rfl), Lib.hid (by omega)⟩, rfl⟩
            · exact ⟨⟨k, rfl, by omega, by omega, Lib.hid (.inl rfl), Lib.hid (by omega)⟩, rfl⟩
          case rest =>
            obtain ⟨⟨q, rfl, hq1, hqm, HQ, HQM⟩, rfl⟩ := hcut
            have HK := Lib.hid (And.intro hk2 hk24)
            clear hk2 hk24
            obtain ⟨sz, hsz⟩ : ∃ sz, sz = (m.length + q - 1) / q := ⟨_, rfl⟩
            have hsI : ((m.length : Int) + q - 1) / q = (sz : Int) := by
              rw [hsz, Int.natCast_ediv]
              congr 1
              omega
            have hsz1 : 1 ≤ sz := by rw [hsz]; exact (Nat.one_le_div_iff (by omega)).2 (by omega)
            have hsz12 : sz ≤ 12 := by
              rw [hsz]
              exact Nat.le_trans (size_le hq1) hm12
            have HSZ := Lib.hid hsz
            clear hsz
            have ho := HO.out
            have C4 := clone_own ao cap m wr (IntsAt.of_owns ho) (owns_ints_none ho) (by omega)
            clear ho
            go_wp2_with fail
            simp only [hsI]
            refine C4.mono ?_
            rintro e w4 ⟨v4, rfl, ho4, hb4⟩
            have hoq := owns_below HO.out hb4
            have hb04 := hb.trans (hb4.mono hb.size)
            have ho4' := owns_mono ho4 hb.size
            have HB04 := Lib.hid hb04
            clear C4 hb4 ho4 hsI HO hb hb04
            go_wp2_with fail
            go_loopw [8, 9] (fun v i wq => ∃ (ls : List Int) (j : Nat), wq.ownsRow W.heap.size 3 1 v ls.length (ls.map (Value.int .i64)) ∧ i = .int .i64 j ∧ j ≤ 24 ∧ wq.ownsRow W.heap.size 3 1 (.slice ao m.length cap) m.length (m.map (Value.int .i64)) ∧ Below W.heap.size W wq ∧
              ((ls = m ∧ RowKit.Hid (∃ p, j = p * sz ∧ ∀ p', p' < p → F (cut m (p' * sz) sz) = false)) ∨ (ls.length < m.length ∧ RowKit.Hid (ls.Sublist m ∧ FirstCut F m sz ls)))) (fun _ i _ => 40 - (intOf i).toNat)
            case atStart => exact ⟨m, 0, ho4', rfl, by omega, hoq, HB04.out, .inl ⟨rfl, Lib.hid ⟨0, by omega, fun _ h => by omega⟩⟩⟩
            case round =>
              obtain ⟨ls, j, hol, rfl, hj24, hom, hbq, hcase⟩ := hrel
              obtain ⟨a8, c8, rfl⟩ := owns_shape hol
              by_cases hjm : j < m.length
              · rcases hcase with ⟨rfl, hpre⟩ | ⟨hlt, hls⟩
                · obtain ⟨g, og, hao⟩ : ∃ g og, ao = some ⟨g, og, none⟩ := by
                    obtain ⟨b, o, h, _⟩ := IntsAt.of_owns hom 0 (by omega)
                    exact ⟨b, o, h⟩
                  subst hao
                  go_upto_region 14 with fail
                  have hlo : (some ⟨g, og, none⟩ : Option Addr) ≠ none := by simp
                  go_cut [10] from 39 to 70 (fun v wx => wx.ownsRow W.heap.size 3 1 v (cut ls j sz).length ((cut ls j sz).map (Value.int .i64)) ∧ Below wr.heap.size wr wx)
                  case first =>
                    have hlc := owns_cap hom
                    have hjc : j ≤ cap := by omega
                    obtain ⟨hi, hhi⟩ : ∃ hi, hi = j + sz := ⟨_, rfl⟩
                    have hji : (j : Int) + (sz : Int) = (hi : Int) := by omega
                    have hh24 : hi ≤ 24 := by omega
                    have hwr : IntKind.i64.wrap (hi : Int) = hi := by rw [IntKind.wrap_i64]; omega
                    have HHI := Lib.hid hhi
                    clear hhi
                    by_cases hmn : ls.length < hi
                    · by_cases hcap : cap = ls.length
                      · subst hcap
                        have R := Lib.hid (rest_of hom hm12 j ls.length (by omega) (some ⟨g, og, none⟩) 0 0 (by omega) (IntsAt.short (by simp)) (fun h => by cases h))
                        go_region_with (go_at_call 19; refine R.out.mono ?_; rintro e w5 ⟨v5, rfl, hov, hbv⟩)
                        all_goals
                          go_wp2_with fail
                          go_meet
                          exact ⟨by rw [cut, Nat.min_eq_right (by have := HHI.out; omega)]; exact owns_mono hov hbq.size, hbv⟩
                      · have R := Lib.hid (rest_of hom hm12 j ls.length (by omega) (some ⟨g, og + ls.length, none⟩) 0 (cap - ls.length) (by omega) (IntsAt.short (by simp)) (fun h => by cases h))
                        go_region_with (go_at_call 19; refine R.out.mono ?_; rintro e w5 ⟨v5, rfl, hov, hbv⟩)
                        all_goals
                          go_wp2_with fail
                          go_meet
                          exact ⟨by rw [cut, Nat.min_eq_right (by have := HHI.out; omega)]; exact owns_mono hov hbq.size, hbv⟩
                    · have hhc : hi ≤ cap := by omega
                      have hhl : hi ≤ ls.length := by omega
                      by_cases hcap : cap = hi
                      · obtain rfl : hi = ls.length := by omega
                        subst hcap
                        have R := Lib.hid (rest_of hom hm12 j ls.length (by omega) (some ⟨g, og, none⟩) 0 0 (by omega) (IntsAt.short (by simp)) (fun h => by cases h))
                        go_region_with (go_at_call 19; refine R.out.mono ?_; rintro e w5 ⟨v5, rfl, hov, hbv⟩)
                        all_goals
                          go_wp2_with fail
                          go_meet
                          exact ⟨by rw [cut, Nat.min_eq_right (by have := HHI.out; omega)]; exact owns_mono hov hbq.size, hbv⟩
                      · have R := Lib.hid (rest_of hom hm12 j hi (by omega) (some ⟨g, og + hi, none⟩) (ls.length - hi) (cap - hi) rfl (IntsAt.drop (IntsAt.of_owns hom) hi) (fun h => by cases h))
                        go_region_with (go_at_call 19; refine R.out.mono ?_; rintro e w5 ⟨v5, rfl, hov, hbv⟩)
                        all_goals
                          go_wp2_with fail
                          go_meet
                          exact ⟨by rw [cut, Nat.min_eq_left (by rw [← HHI.out]; exact hhl), ← HHI.out]; exact owns_mono hov hbq.size, hbv⟩
                  case rest =>
                    obtain ⟨hov, hbv⟩ := hcut
                    obtain ⟨ac, cc, rfl⟩ := owns_shape hov
                    have hbq' := hbq.trans (hbv.mono hbq.size)
                    have hom' := owns_below hom hbv
                    have hol' := owns_below hol hbv
                    have hcl : (cut ls j sz).length < ls.length := cut_len ls j sz hjm (by omega)
                    have C6 := clone_own ac cc (cut ls j sz) wc (IntsAt.of_owns hov) (owns_ints_none hov) (by omega)
                    have HOV := Lib.hid hov
                    clear hov hom hol hbv
                    go_wp2_with fail
                    refine C6.mono ?_
                    rintro e w6 ⟨v6, rfl, ho6, hb6⟩
                    have hbq6 := hbq'.trans (hb6.mono hbq'.size)
                    have HF6 := HF.out w6 wc.heap.size v6 (cut ls j sz) hbq6 hbq'.size hb6.size ho6 (by omega)
                    have hs6 := cut_sub ls j sz
                    obtain ⟨rs, hrs⟩ : ∃ rs, rs = cut ls j sz := ⟨_, rfl⟩
                    rw [← hrs] at HOV HF6 hcl hs6
                    have HRS := Lib.hid hrs
                    have HS6 := Lib.hid hs6
                    have HBQ := Lib.hid hbq'
                    have HOL := Lib.hid hol'
                    have HOM := Lib.hid hom'
                    obtain ⟨b, hFb⟩ : ∃ b, b = F rs := ⟨_, rfl⟩
                    rw [← hFb] at HF6
                    have HFB := Lib.hid hFb
                    rw [← hrs]
                    clear hrs C6 hom' hol' ho6 hs6 hbq' hbq6 hFb
                    go_wp2_with fail
                    refine HF6.mono ?_
                    rintro e w7 ⟨rfl, hb7⟩
                    have hb67 := hb6.trans hb7
                    have hol7 := owns_below HOL.out hb67
                    have hom7 := owns_below HOM.out hb67
                    have hov7 := owns_below HOV.out hb67
                    have HB7 := Lib.hid (HBQ.out.trans (hb67.mono HBQ.out.size))
                    clear HF6 hb6 hb7 hb67 HOL HOM HOV HBQ
                    cases b
                    · go_wp2_with fail
                      go_roundw
                      case rel =>
                        refine ⟨ls, j + sz, hol7, by go_num, by omega, hom7, HB7.out, .inl ⟨rfl, Lib.hid ?_⟩⟩
                        obtain ⟨p, hp, hall⟩ := hpre.out
                        refine ⟨p + 1, by rw [hp, Nat.add_mul, Nat.one_mul], fun p' hp' => ?_⟩
                        by_cases he : p' = p
                        · subst he
                          rw [← hp, ← HRS.out]
                          exact HFB.out.symm
                        · exact hall p' (by omega)
                      case measure => simp [intOf]; omega
                    · go_wp2_with fail
                      go_roundw
                      case rel => 
                        refine ⟨rs, j + sz, hov7, by go_num, by omega, hom7, HB7.out, .inr ⟨hcl, Lib.hid ⟨HS6.out, ?_⟩⟩⟩
                        obtain ⟨p, hp, hall⟩ := hpre.out
                        exact ⟨p, by rw [← hp]; exact hjm, by rw [← hp]; exact HRS.out, HFB.out.symm, hall⟩
                      case measure => simp [intOf]; omega
                · have hne : ((ls.length : Int) == (m.length : Int)) = false := by simp; omega
                  have hlt' : decide ((ls.length : Int) < (m.length : Int)) = true := by simp; omega
                  go_wp2_with fail
                  obtain ⟨hsl, hFl⟩ := hls.out
                  have hkk := HK.out
                  go_roundw
                  case rel =>
                    refine ⟨ls, max (q - 1) 2, hol, Lib.hid (hsl.trans hsub.out), Lib.hid (by obtain ⟨_, _, _, h, _⟩ := hFl; exact h), ?_, by omega, by omega, by omega, hbq, Lib.hid fun r hr => HRU.out r (.less hm0 HQM.out (by rw [← HSZ.out]; exact hFl) hr)⟩
                    congr 1
                    split <;> omega
                  case measure => simp only [lenV, intOf]; omega
              · rcases hcase with ⟨rfl, hpre⟩ | ⟨hlt, hls⟩
                · by_cases hqe : q = ls.length
                  · go_wp2_with fail
                    go_ret2
                    refine ⟨.inr (.inr ⟨by omega, HFL.out, _, ls, rfl, ⟨hFm.out, hsub.out, ?_⟩, HRU.out _ (.done hm0 HQM.out hqe (by rw [← HSZ.out]; exact no_cut hjm hpre.out)), hom⟩), hbq⟩
                    intro i hi
                    obtain ⟨p, hp, hall⟩ := hpre.out
                    have hs1 : sz = 1 := by rw [HSZ.out, hqe]; exact size_one (by omega)
                    have hf := hall i (by rw [hs1] at hp; omega)
                    rwa [hs1, Nat.mul_one, cut_one ls i hi] at hf
                  · have hqe' : ((q : Int) == (ls.length : Int)) = false := by simp; omega
                    go_wp2_with fail
                    have hqk := HQ.out.resolve_right hqe
                    have hkk := HK.out
                    go_roundw
                    case rel => exact ⟨ls, q * 2, hom, hsub, hFm, by simp, by omega, by omega, by omega, hbq, Lib.hid fun r hr => HRU.out r (.more hm0 HQM.out hqe (by rw [← HSZ.out]; exact no_cut hjm hpre.out) hr)⟩
                    case measure => simp only [lenV, intOf]; omega
                · have hlt' : decide ((ls.length : Int) < (m.length : Int)) = true := by simp; omega
                  go_wp2_with fail
                  obtain ⟨hsl, hFl⟩ := hls.out
                  have hkk := HK.out
                  go_roundw
                  case rel =>
                    refine ⟨ls, max (q - 1) 2, hol, Lib.hid (hsl.trans hsub.out), Lib.hid (by obtain ⟨_, _, _, h, _⟩ := hFl; exact h), ?_, by omega, by omega, by omega, hbq, Lib.hid fun r hr => HRU.out r (.less hm0 HQM.out (by rw [← HSZ.out]; exact hFl) hr)⟩
                    congr 1
                    split <;> omega
                  case measure => simp only [lenV, intOf]; omega
end Go.Proofs.YtgkjmacdllibmaaDoor
