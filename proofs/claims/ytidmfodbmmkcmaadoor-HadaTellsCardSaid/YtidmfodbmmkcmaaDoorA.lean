import Derived.Test.YtidmfodbmmkcmaaDoorRows
import Derived.Test.YtidmfodbmmkcmaaDoorInts
import Derived.Test.YtidmfodbmmkcmaaDoorSInts
import Derived.Test.YtidmfodbmmkcmaaDoorP
namespace Go.Proofs.YtidmfodbmmkcmaaDoor
open Go.RowKit Go.Mine Go.Mine.Hada

theorem info3 : (Tryd.prog.info? 3).map (fun i => (i.zero, i.size, i.bytes)) = some (some (.int .i64 0), 1, 8) := by kernel_rfl

/-- A row of numbers of the machine. -/
def R (h : Nat → Int) (n : Nat) : List Value := (List.range n).map fun j => Value.int .i64 (wrap64 (h j))
theorem R_len (h : Nat → Int) (n : Nat) : (R h n).length = n := by simp [R]
theorem R_at (h : Nat → Int) {n j : Nat} (hj : j < n) : (R h n)[j]? = some (.int .i64 (wrap64 (h j))) := by simp [R, hj]
theorem R_congr {h h' : Nat → Int} {n : Nat} (hh : ∀ j, j < n → h j = h' j) : R h n = R h' n := by
  unfold R
  refine List.map_congr_left fun j hj => ?_
  rw [hh j (by simpa using hj)]

theorem and_bit : ∀ i, i < 64 → ∀ s, s < 6 → bits BinOp.and IntKind.i64 ((i : Nat) : Int) ((2 ^ s : Nat) : Int) = if (i / 2 ^ s) % 2 = 0 then 0 else ((2 ^ s : Nat) : Int) := by decide +kernel

theorem effects_range (k : Int) (v : Value) (ao : Option Addr) (len cap : Nat) (W : World) (hv : v = .slice ao len cap) (hk : k < 0 ∨ 6 < k) :
    Calls Tryd.prog 11 #[.int .i64 k, v] W fun e w' => e = .returned (.tuple #[.slice none 0 0, .iface 24 (.int .i64 1)]) ∧ W = w' := by
  subst hv
  by_cases h : k < 0
  · go_enter Tryd.func11, Tryd.ntmps11
    go_wp2
    go_ret2
    exact ⟨rfl, rfl⟩
  · have h6 : 6 < k := by omega
    go_enter Tryd.func11, Tryd.ntmps11
    go_wp2
    go_ret2
    exact ⟨rfl, rfl⟩

theorem pow_wrap : ∀ k, k ≤ 6 → wrap64 (2 ^ k) = ((2 ^ k : Nat) : Int) := by
  intro k hk
  rcases (show k = 0 ∨ k = 1 ∨ k = 2 ∨ k = 3 ∨ k = 4 ∨ k = 5 ∨ k = 6 by omega) with rfl | rfl | rfl | rfl | rfl | rfl | rfl <;> decide +kernel
theorem pow_le {k : Nat} (hk : k ≤ 6) : 2 ^ k ≤ 64 := by
  have := Nat.pow_le_pow_right (show 0 < 2 by omega) hk
  omega

theorem effects_form (k : Nat) (ao : Option Addr) (len cap : Nat) (W : World) (hk : k ≤ 6) (hne : len ≠ 2 ^ k) :
    Calls Tryd.prog 11 #[.int .i64 k, .slice ao len cap] W fun e w' => e = .returned (.tuple #[.slice none 0 0, .iface 24 (.int .i64 3)]) ∧ W = w' := by
  have hp := pow_wrap k hk
  obtain ⟨P, hP⟩ : ∃ P, P = 2 ^ k := ⟨_, rfl⟩
  rw [← hP] at hp hne
  have hb : ((len : Int) != (P : Int)) = true := by rw [bne_iff_ne]; omega
  clear hP
  go_enter Tryd.func11, Tryd.ntmps11
  go_wp2_with fail
  go_ret2
  exact ⟨rfl, rfl⟩

/-- One pair of the row, in place. -/
theorem pair_stored {w : World} {base g n cap i d : Nat} {h : Nat → Int} (ho : w.ownsRow base 3 1 (.slice (some ⟨g, 0, none⟩) n cap) n (R h n)) (x y : Int) (hid : i + d < n) (hd : 0 < d) :
    ((w.setCell ⟨g, i, none⟩ (.int .i64 (wrap64 x))).setCell ⟨g, i + d, none⟩ (.int .i64 (wrap64 y))).ownsRow base 3 1 (.slice (some ⟨g, 0, none⟩) n cap) n (R (fun j => if j = i then x else if j = i + d then y else h j) n) := by
  have h1 := (ho.stored i (.int .i64 (wrap64 x))).1
  have h2 := (h1.stored (i + d) (.int .i64 (wrap64 y))).1
  have e : ((R h n).set i (.int .i64 (wrap64 x))).set (i + d) (.int .i64 (wrap64 y)) = R (fun j => if j = i then x else if j = i + d then y else h j) n := by
    unfold R
    rw [set_range, set_range]
    refine List.map_congr_left fun j _ => ?_
    dsimp only
    by_cases e1 : j = i
    · subst e1
      rw [if_neg (by omega), if_pos rfl, if_pos rfl]
    · by_cases e2 : j = i + d
      · rw [if_pos e2, if_neg e1, if_pos e2]
      · rw [if_neg e2, if_neg e1, if_neg e1, if_neg e2]
  rw [e] at h2
  exact h2

set_option maxHeartbeats 1000000 in
theorem effects_ok (k : Nat) (xs : List Int) (ao : Option Addr) (cap : Nat) (W : World) (hx : IntsAt .i64 W ao xs) (hk : k ≤ 6) (hl : xs.length = 2 ^ k) (hw : ∀ j, wrap64 (xs.getD j 0) = xs.getD j 0) :
    Calls Tryd.prog 11 #[.int .i64 k, .slice ao xs.length cap] W fun e w' => ∃ g cap', e = .returned (.tuple #[.slice (some ⟨g, 0, none⟩) xs.length cap', .nilIface]) ∧
      w'.ownsRow W.heap.size 3 1 (.slice (some ⟨g, 0, none⟩) xs.length cap') xs.length (R (G k fun j => xs.getD j 0) xs.length) ∧ Below W.heap.size W w' := by
  obtain ⟨i0, hi0, hz0, hz1, hz2⟩ := info_parts info3
  have hp := pow_wrap k hk
  have hn64 := pow_le hk
  rw [← hl] at hp hn64
  have hn1 : 0 < xs.length := by rw [hl]; exact Nat.two_pow_pos k
  obtain ⟨b, o, rfl, _⟩ := hx.plain hn1
  have hx1 : IntsAt .i64 (W.alloc (.cells #[] 3)) (some ⟨b, o, none⟩) xs := hx.below (Nat.le_refl _) ((Below.refl _ _).alloc (Nat.le_refl _) _)
  have HX := Lib.hid hx1.cells; clear hx1 hx
  have hown : (W.alloc (.cells #[] 3)).ownsRow W.heap.size 3 1 (.slice (some ⟨W.heap.size, 0, none⟩) 0 0) 0 [] := by
    have := World.ownsRow_lit (base := W.heap.size) (e := 3) (size := 1) W #[] 0 (Nat.le_refl _) (Nat.zero_le _) rfl
    simpa using this
  have hb0 : Below W.heap.size W (W.alloc (.cells #[] 3)) := (Below.refl _ _).alloc (Nat.le_refl _) _
  have HL := Lib.hid hl; clear hl
  have hR0 : xs.map (Value.int .i64) = R (G 0 fun j => xs.getD j 0) xs.length := by
    apply List.ext_getElem?
    intro j
    by_cases hj : j < xs.length
    · rw [R_at _ hj, G, hw j]; simp [hj]
    · rw [List.getElem?_eq_none (by simp; omega), List.getElem?_eq_none (by rw [R_len]; omega)]
  have HR0 := Lib.hid hR0; clear hR0 hw
  obtain ⟨f, hf⟩ : ∃ f : Nat → Int, f = fun j => xs.getD j 0 := ⟨_, rfl⟩
  rw [← hf] at HR0 ⊢
  clear hf
  obtain ⟨n, hn⟩ : ∃ n, n = xs.length := ⟨_, rfl⟩
  have hnl : ((n : Int) != (n : Int)) = false := by simp
  have HXL : (xs.map (Value.int .i64)).length = n * 1 := by rw [hn]; simp
  have HXL' := Lib.hid HXL; clear HXL
  rw [← hn] at hp hn64 hn1 HL HR0 ⊢
  clear hn
  go_enter Tryd.func11, Tryd.ntmps11
  go_wp2_with (at_builtin; refine wpList_extend _ rfl _ _ 22 rfl W.heap.size 3 i0 (.int .i64 0) 1 8 Tryd.underlying22 hi0 hz0 hz1 hz2 rfl (by decide) _ _ _ rfl hown ⟨b, o, none⟩ n cap (xs.map (Value.int .i64)) rfl HXL'.out HX.out (ints1 _ _) (by omega) ?c3 ?c4 ?c5 ?_)
  case c3 => unfold maxLen; omega
  case c4 => omega
  case c5 => simp
  intro g cap1 w1 hown1 hg1
  rw [HR0.out] at hown1
  try simp only [Nat.zero_add, List.nil_append] at hown1
  have hb1 := hb0.grown hg1 (by simp) (fun k hk => (hown.lt k hk).1)
  have hgs := (hown1.lt g rfl).1
  clear hown hb0 hg1 HX HXL'
  go_wp2_with fail
  go_loopw [7] (fun st wr => ∃ s P : Nat, s ≤ k ∧ P = 2 ^ s ∧ st = .int .i64 P ∧ wr.ownsRow W.heap.size 3 1 (.slice (some ⟨g, 0, none⟩) n cap1) n (R (G s f) n) ∧ Below W.heap.size W wr) (fun st _ => n - (intOf st).toNat)
  case atStart => exact ⟨0, 1, by omega, rfl, rfl, hown1, hb1⟩
  case round =>
    obtain ⟨s, P, hs, hP, rfl, hown2, hb2⟩ := hrel
    have hP0 : 0 < P := by rw [hP]; exact Nat.two_pow_pos s
    by_cases hsk : s < k
    · have hPn : P < n := by rw [hP, HL.out]; exact Nat.pow_lt_pow_right (by omega) hsk
      have HP := Lib.hid hP; clear hP
      go_wp2_with fail
      go_loopw [33] (fun i wr => ∃ j : Nat, j ≤ n ∧ i = .int .i64 j ∧ wr.ownsRow W.heap.size 3 1 (.slice (some ⟨g, 0, none⟩) n cap1) n (R (cur s (G s f) j) n) ∧ Below W.heap.size W wr) (fun i _ => n - (intOf i).toNat)
      case atStart => exact ⟨0, by omega, rfl, by rw [R_congr (h' := G s f) fun j _ => cur_zero s _ j]; exact hown2, hb2⟩
      case round =>
        obtain ⟨j, hj, rfl, hown3, hb3⟩ := hrel
        by_cases hjn : j < n
        · have hbit := and_bit j (by omega) s (by omega)
          rw [← HP.out] at hbit
          by_cases hlow : low s j
          · have hbit0 : bits BinOp.and IntKind.i64 (j : Int) (P : Int) = 0 := by rw [hbit, if_pos]; rw [HP.out]; exact hlow
            have hjP : j + P < n := by rw [HP.out, HL.out]; exact low_top hsk (by rw [← HL.out]; exact hjn) hlow
            obtain ⟨q1, q2, q3⟩ := cur_low s (G s f) j hlow
            have hcx : wr.cell? ⟨g, j, none⟩ = some (.int .i64 (wrap64 (G s f j))) := by rw [hown3.cellAt _ (by omega), R_at _ hjn, q1]
            have hcy : wr.cell? ⟨g, j + P, none⟩ = some (.int .i64 (wrap64 (G s f (j + P)))) := by rw [hown3.cellAt _ (by omega), R_at _ hjP, HP.out, q2]
            have hfx := hown3.frozenAt j
            have hfy := hown3.frozenAt (j + P)
            have HPS := Lib.hid (pair_stored hown3 (G s f j + G s f (j + P)) (G s f j - G s f (j + P)) hjP hP0)
            have HQ3 := Lib.hid q3
            have hbs := Lib.hid ((hb3.setCell (p := ⟨g, j, none⟩) hgs (.int .i64 (wrap64 (G s f j + G s f (j + P))))).setCell (p := ⟨g, j + P, none⟩) hgs (.int .i64 (wrap64 (G s f j - G s f (j + P)))))
            obtain ⟨x, hx⟩ : ∃ x, x = wrap64 (G s f j) := ⟨_, rfl⟩
            obtain ⟨y, hy⟩ : ∃ y, y = wrap64 (G s f (j + P)) := ⟨_, rfl⟩
            rw [← hx] at hcx
            rw [← hy] at hcy
            have HX1 := Lib.hid hx; clear hx
            have HY1 := Lib.hid hy; clear hy
            clear hbit q1 q2 q3 hown3 hb3 hown2 hb2 hown1 hb1
            go_wp2_with fail
            go_region
            go_wp2_with fail
            go_roundw
            case rel =>
              refine ⟨j + 1, by omega, by go_num, ?_, ?_⟩
              · rw [HX1.out, HY1.out, wrap_wrap_add, wrap_wrap_sub, R_congr (h' := fun i => if i = j then G s f j + G s f (j + P) else if i = j + P then G s f j - G s f (j + P) else cur s (G s f) j i) fun i _ => by rw [HQ3.out, HP.out]]
                exact HPS.out
              · rw [HX1.out, HY1.out, wrap_wrap_add, wrap_wrap_sub]
                exact hbs.out.drew
            case measure => simp [intOf]; omega
          · have hbit0 : bits BinOp.and IntKind.i64 (j : Int) (P : Int) = (P : Int) := by rw [hbit, if_neg]; rw [HP.out]; exact hlow
            have hne : ((P : Int) == 0) = false := by rw [beq_eq_false_iff_ne]; omega
            have hown4 := hown3
            rw [← R_congr fun i _ => cur_high s (G s f) j i hlow] at hown4
            have HO := Lib.hid hown4
            clear hbit hown3 hown4 hown2 hb2 hown1 hb1
            go_wp2_with fail
            go_roundw
            case rel => exact ⟨j + 1, by omega, by go_num, HO.out, hb3⟩
            case measure => simp [intOf]; omega
        · have hjn' : j = n := by omega
          rw [hjn', R_congr (h' := G (s + 1) f) fun i hi => cur_all s (G s f) n i hi] at hown3
          clear hown2 hb2 hown1 hb1
          go_wp2_with fail
          go_roundw
          case rel => exact ⟨s + 1, P * 2, by omega, by rw [HP.out, Nat.pow_succ], by go_num, hown3, hb3⟩
          case measure => simp [intOf]; omega
    · have hsk' : s = k := by omega
      have hPn : P = n := by rw [hP, hsk', HL.out]
      subst hPn
      rw [hsk'] at hown2
      go_wp2_with fail
      go_ret2
      exact ⟨g, cap1, rfl, hown2, hb2⟩
end Go.Proofs.YtidmfodbmmkcmaaDoor
