/- gram.spans.ends. No conditions. -/
import Derived.Test.YtfdjnofkoegbdaaDoorRows
import Derived.Test.YtfdjnofkoegbdaaDoorGramP
import Derived.Test.YtfdjnofkoegbdaaDoorRows3
import Derived.Test.YtfdjnofkoegbdaaDoorContains
import Derived.Deep.QuietTactic
import Derived.BigQuiet
import Derived.OwnWalk
namespace Go.Proofs.YtfdjnofkoegbdaaDoor
open Go.RowKit Go.Mine Go.Mine.Gram

theorem infoI : (Tryd.prog.info? 3).map (fun i => (i.zero, i.size, i.bytes)) = some (some (.int .i64 0), 1, 8) := by kernel_rfl
/-- A table of spans of n names at block g. -/
def TabAt (w : World) (g n : Nat) (c : List Bool) : Prop := c.length = n * 81 ∧ ∀ p, p < c.length → w.cell? ⟨g, p, none⟩ = some (.bool (c.getD p false))
theorem TabAt.below {w w' : World} {g n : Nat} {c : List Bool} (h : TabAt w g n c) {B : Nat} (hB : w.heap.size ≤ B) (hb : Below B w w') : TabAt w' g n c :=
  ⟨h.1, fun p hp => (hb.cell (p := ⟨g, p, none⟩) (Nat.lt_of_lt_of_le (World.block_lt_of_cell? w _ (h.2 p hp)) hB)).trans (h.2 p hp)⟩

theorem apart_push {w : World} {base : Nat} {v u : Value} {e : TypeId} {size m g n cap : Nat} {xs : List Value} (h : Apart v u) (hu : w.ownsRow base e size u m xs) (hat : v.ownBlock = some g ∨ g = w.heap.size + 1) : Apart (.slice (some ⟨g, 0, none⟩) n cap) u := by
  intro k hk huk
  simp only [Value.ownBlock, Option.some.injEq] at hk
  subst hk
  rcases hat with h1 | h1
  · exact h _ h1 huk
  · have := (hu.lt _ huk).2
    omega

set_option maxHeartbeats 4000000 in
set_option maxRecDepth 100000 in
theorem ends_any (n : Nat) (c : List Bool) (ws xs : List Int) (fr : Nat) (g wc xc : Nat) (wo xo : Option Addr) (W : World) (ht : TabAt W g n c) (hw : IntsAt .i64 W wo ws) (hx : IntsAt .i64 W xo xs) (hn5 : n ≤ 5) (hwl : ws.length ≤ 8) (hxl : xs.length ≤ 4) (hfr : fr ≤ ws.length) (hxr : ∀ x ∈ xs, -(n : Int) ≤ x ∧ x ≤ 2) :
    Calls Tryd.prog 18 #[.slice (some ⟨g, 0, none⟩) n n, .slice wo ws.length wc, .slice xo xs.length xc, .int .i64 fr] W fun e w' => ∃ v L, e = .returned v ∧ w'.ownsRow W.heap.size 3 1 v L.length (L.map (Value.int .i64)) ∧ Got ws L (Spn (Sb c) ws xs fr) ∧ Below W.heap.size W w' := by
  obtain ⟨i0, hi0, hz0, hz1, hz2⟩ := info_parts infoI
  have HT := Lib.hid (show ∀ w, Below W.heap.size W w → TabAt w g n c ∧ IntsAt .i64 w wo ws ∧ IntsAt .i64 w xo xs from fun w hb => ⟨ht.below (Nat.le_refl _) hb, hw.below (Nat.le_refl _) hb, hx.below (Nat.le_refl _) hb⟩)
  have HXR := Lib.hid hxr
  have HCL := Lib.hid ht.1
  clear ht hw hx hxr
  go_enter Tryd.func18, Tryd.ntmps18
  have hb0 : Below W.heap.size W (W.alloc (.cells #[.int .i64 fr] 3)) := (Below.refl _ _).alloc (Nat.le_refl _) _
  have ho0 : (W.alloc (.cells #[.int .i64 fr] 3)).ownsRow W.heap.size 3 1 (.slice (some ⟨W.heap.size, 0, none⟩) 1 1) 1 ([(fr : Int)].map (Value.int .i64)) :=
    World.ownsRow_lit W #[.int .i64 fr] 1 (Nat.le_refl _) (by simp [maxLen]) rfl
  have hg0 : Got ws [(fr : Int)] (Spn (Sb c) ws (xs.take 0) fr) := ⟨fun z hz => ⟨fr, by simpa using hz, hfr⟩, by simp, fun k => by
    rw [List.take_zero, List.mem_singleton]
    exact ⟨fun h => by show fr = k; omega, fun h => by have e : fr = k := h; rw [e]⟩⟩
  have HB0 := Lib.hid hb0
  have HO0 := Lib.hid ho0
  have HG0 := Lib.hid hg0
  clear hb0 ho0 hg0
  go_wp2_with fail
  go_loopw [9, 20] (fun v tv wr => ∃ (t : Nat) (A : List Int), tv = .int .i64 t ∧ t ≤ xs.length ∧ RowKit.Hid (Got ws A (Spn (Sb c) ws (xs.take t) fr)) ∧ wr.ownsRow W.heap.size 3 1 v A.length (A.map (Value.int .i64)) ∧ Below W.heap.size W wr) (fun _ tv _ => xs.length - (intOf tv).toNat)
  case atStart => exact ⟨0, [(fr : Int)], rfl, by omega, HG0, HO0.out, HB0.out⟩
  clear HG0 HO0 HB0
  case round =>
    obtain ⟨t, A, rfl, ht, hgot, ho, hb⟩ := hrel
    obtain ⟨ao, ac, rfl⟩ := owns_shape ho
    have hal := hgot.out.len
    by_cases htl : t < xs.length
    · obtain ⟨htab, hws, hxs⟩ := HT.out wr hb
      obtain ⟨bx, ox, rfl, hcx⟩ := hxs t htl
      have hmem : xs.getD t 0 ∈ xs := by simp [htl]
      have hxr := HXR.out _ hmem
      have HTK := Lib.hid (show xs.take (t + 1) = xs.take t ++ [xs.getD t 0] by rw [List.take_add_one]; simp [htl])
      obtain ⟨x, hx⟩ : ∃ x, x = xs.getD t 0 := ⟨_, rfl⟩
      rw [← hx] at hcx hxr HTK
      have HO := Lib.hid ho
      have HB := Lib.hid hb
      clear htab hws hxs hmem hx ho hb
      go_wp2_with fail
      go_loopw [12, 26] (fun v pv wr => ∃ (p : Nat) (N : List Int), pv = .int .i64 p ∧ p ≤ A.length ∧ RowKit.Hid (Got ws N (fun j => ∃ q, q < p ∧ One (Sb c) ws x (A.getD q 0).toNat j)) ∧ wr.ownsRow W.heap.size 3 1 v N.length (N.map (Value.int .i64)) ∧ wr.ownsRow W.heap.size 3 1 (.slice ao A.length ac) A.length (A.map (Value.int .i64)) ∧ RowKit.Hid (Apart v (.slice ao A.length ac)) ∧ Below W.heap.size W wr) (fun _ pv _ => A.length - (intOf pv).toNat)
      case atStart => exact ⟨0, [], rfl, by omega, Lib.hid (Got.nil (fun k => by rintro ⟨q, h, _⟩; omega)), World.ownsRow_nil _ _ _ _, HO.out, Lib.hid (fun g hg => by cases hg), HB.out⟩
      clear HO HB
      case round =>
        obtain ⟨p, N, rfl, hp, hgn, hon, hoa, hap, hb⟩ := hrel
        obtain ⟨no, nc, rfl⟩ := owns_shape hon
        have hnl := hgn.out.len
        by_cases hpl : p < A.length
        · obtain ⟨ba, oa, rfl, hca⟩ := IntsAt.of_owns hoa p hpl
          have hmem : A.getD p 0 ∈ A := by simp [hpl]
          obtain ⟨i, hi, hiw⟩ := hgot.out.range _ hmem
          have HAI := Lib.hid (show (A.getD p 0).toNat = i by rw [hi, Int.toNat_natCast])
          rw [hi] at hca
          have HG0 := Lib.hid (show Got ws N (Mid (Sb c) ws x A p i) from hgn.out.congr fun j => by
            have := Mid.start (S := Sb c) (w := ws) (x := x) (A := A) (p := p) (j := j)
            rw [HAI.out] at this
            exact this.symm)
          have HON := Lib.hid hon
          have HOA := Lib.hid hoa
          have HB := Lib.hid hb
          clear hon hoa hb hgn hmem hi hnl
          go_wp2_with fail
          go_loopw [12, 15] (fun v kv wr => ∃ (k : Nat) (N : List Int), kv = .int .i64 k ∧ i ≤ k ∧ k ≤ ws.length + 1 ∧ RowKit.Hid (Got ws N (Mid (Sb c) ws x A p k)) ∧ wr.ownsRow W.heap.size 3 1 v N.length (N.map (Value.int .i64)) ∧ wr.ownsRow W.heap.size 3 1 (.slice (some ⟨ba, oa, none⟩) A.length ac) A.length (A.map (Value.int .i64)) ∧ RowKit.Hid (Apart v (.slice (some ⟨ba, oa, none⟩) A.length ac)) ∧ Below W.heap.size W wr) (fun _ kv _ => ws.length + 1 - (intOf kv).toNat)
          case atStart => exact ⟨i, N, rfl, by omega, by omega, HG0, HON.out, HOA.out, hap, HB.out⟩
          clear HG0 HON HOA HB hap
          case round =>
            obtain ⟨k, N, rfl, hik, hkl, hgk, hon, hoa, hap, hb⟩ := hrel
            obtain ⟨no, nc, rfl⟩ := owns_shape hon
            have hnl := hgk.out.len
            by_cases hkw : k ≤ ws.length
            · obtain ⟨⟨hcl, hcc⟩, hws, _⟩ := HT.out wr hb
              have HON := Lib.hid hon
              have HOA := Lib.hid hoa
              have HB := Lib.hid hb
              have hsz := hb.size
              have HCT := Lib.hid (contains_any N (k : Int) no nc wr (IntsAt.of_owns hon) (by unfold maxLen; omega))
              clear hon hoa hb
              by_cases hx0 : 0 ≤ x
              · by_cases hki : k = i + 1
                · have hiwl : i < ws.length := by omega
                  obtain ⟨bw, ow, hwe, hcw⟩ := hws i hiwl
                  subst hwe
                  have HONE := Lib.hid (show One (Sb c) ws x i k ↔ ws.getD i 0 = x from ⟨fun h => by
                    rcases h with ⟨_, _, _, h⟩ | ⟨h, _⟩
                    · exact h
                    · omega, fun h => .inl ⟨hx0, hki, hiwl, h⟩⟩)
                  obtain ⟨y, hy⟩ : ∃ y, y = ws.getD i 0 := ⟨_, rfl⟩
                  rw [← hy] at hcw HONE
                  clear hcc hy
                  have hkb : ((k : Int) == (i : Int) + 1) = true := by rw [beq_iff_eq]; omega
                  by_cases hyx : y = x
                  · have hone := HONE.out.2 hyx
                    have hyb : (y == x) = true := by rw [beq_iff_eq]; exact hyx
                    clear hyx hki
                    have HYES := Lib.hid (Mid.yes (S := Sb c) (w := ws) (x := x) (A := A) (p := p) (k := k) (by rw [HAI.out]; exact hone))
                    clear hone
                    go_wp2_with fail
                    refine HCT.out.mono ?_
                    clear HCT
                    rintro e w2 ⟨rfl, rfl⟩
                    by_cases hin : (k : Int) ∈ N
                    · have HGK := Lib.hid (hgk.out.congr (fun j => Iff.trans ⟨.inl, fun h => h.elim id fun e => by rw [e]; exact (hgk.out.mem k).1 hin⟩ (HYES.out j)))
                      have hd : decide ((k : Int) ∈ N) = true := decide_eq_true hin
                      rw [hd]
                      clear hgk hin HYES hd
                      go_wp2_with fail
                      go_roundw
                      case rel => exact ⟨k + 1, N, by go_num, by omega, by omega, HGK, HON.out, HOA.out, hap, HB.out⟩
                      case measure => simp [intOf]; omega
                    · have HGK := Lib.hid ((hgk.out.push hkw hin).congr HYES.out)
                      have hd : decide ((k : Int) ∈ N) = false := decide_eq_false hin
                      rw [hd]
                      have HM := Lib.hid (show N.map (Value.int .i64) ++ [.int .i64 k] = (N ++ [(k : Int)]).map (Value.int .i64) by simp)
                      clear hgk hin HYES hd
                      go_wp2_with (at_builtin; refine wpList_push2 _ rfl _ _ 22 rfl W.heap.size 3 i0 (.int .i64 0) 1 8 Tryd.underlying22 hi0 hz0 hz1 hz2 rfl (by decide) _ _ _ rfl (HON.out.alloc _) ⟨wr.heap.size, 0, none⟩ 1 [.int .i64 k] rfl rfl (cell_one_new _ _ _) (one1 _ _) (by unfold maxLen; omega) (by omega) (by simp; omega) ?_)
                      intro gg cap w7 ho7 hg7 hat
                      have hb7 := (HB.out.alloc hsz (.cells #[.int .i64 k] 3)).grown hg7 (by simp; omega) (fun k hk => (HON.out.lt k hk).1)
                      have hoa7 := owns_apart (HOA.out.alloc (.cells #[.int .i64 k] 3)) hg7 hap.out
                      have hap7 := Lib.hid (apart_push (v := .slice no N.length nc) (w := wr) (n := N.length + 1) (cap := cap) hap.out HOA.out hat)
                      rw [HM.out] at ho7
                      have HO7 := Lib.hid ho7
                      have HOA7 := Lib.hid hoa7
                      have HB7 := Lib.hid hb7
                      clear ho7 hb7 hg7 hat hoa7 hap HON HOA HB
                      go_wp2_with fail
                      go_roundw
                      case rel => exact ⟨k + 1, N ++ [(k : Int)], by go_num, by omega, by omega, HGK, by rw [List.length_append]; exact HO7.out, HOA7.out, hap7, HB7.out⟩
                      case measure => simp [intOf]; omega
                  · have HGK := Lib.hid (hgk.out.congr (Mid.no (by rw [HAI.out]; exact fun h => hyx (HONE.out.1 h))))
                    have hyb : (y == x) = false := by rw [beq_eq_false_iff_ne]; exact hyx
                    clear hgk hyx hki
                    go_wp2_with fail
                    go_roundw
                    case rel => exact ⟨k + 1, N, by go_num, by omega, by omega, HGK, HON.out, HOA.out, hap, HB.out⟩
                    case measure => simp [intOf]; omega
                · have HGK := Lib.hid (hgk.out.congr (Mid.no (by
                    rw [HAI.out]
                    rintro (⟨_, h, _⟩ | ⟨h, _⟩)
                    · exact hki h
                    · omega)))
                  clear hgk hcc hws
                  go_wp2_with fail
                  go_roundw
                  case rel => exact ⟨k + 1, N, by go_num, by omega, by omega, HGK, HON.out, HOA.out, hap, HB.out⟩
                  case measure => simp [intOf]; omega
              · have hidx : (-1 - x).toNat * 81 + i * 9 + k < c.length := by omega
                have hcy := hcc _ hidx
                have HONE := Lib.hid (show One (Sb c) ws x i k ↔ c.getD ((-1 - x).toNat * 81 + i * 9 + k) false = true from ⟨fun h => by
                  rcases h with ⟨h, _⟩ | ⟨_, _, _, h⟩
                  · omega
                  · exact h.2.2, fun h => .inr ⟨by omega, hik, hkw, by omega, by omega, h⟩⟩)
                obtain ⟨y, hy⟩ : ∃ y, y = c.getD ((-1 - x).toNat * 81 + i * 9 + k) false := ⟨_, rfl⟩
                rw [← hy] at hcy HONE
                clear hcc hws hy
                cases y with
                | false =>
                  have HGK := Lib.hid (hgk.out.congr (Mid.no (by rw [HAI.out]; exact fun h => by have := HONE.out.1 h; cases this)))
                  clear hgk
                  go_wp2_with fail
                  go_roundw
                  case rel => exact ⟨k + 1, N, by go_num, by omega, by omega, HGK, HON.out, HOA.out, hap, HB.out⟩
                  case measure => simp [intOf]; omega
                | true =>
                  have hone := HONE.out.2 rfl
                  have HYES := Lib.hid (Mid.yes (S := Sb c) (w := ws) (x := x) (A := A) (p := p) (k := k) (by rw [HAI.out]; exact hone))
                  clear hone
                  go_wp2_with fail
                  refine HCT.out.mono ?_
                  clear HCT
                  rintro e w2 ⟨rfl, rfl⟩
                  by_cases hin : (k : Int) ∈ N
                  · have HGK := Lib.hid (hgk.out.congr (fun j => Iff.trans ⟨.inl, fun h => h.elim id fun e => by rw [e]; exact (hgk.out.mem k).1 hin⟩ (HYES.out j)))
                    have hd : decide ((k : Int) ∈ N) = true := decide_eq_true hin
                    rw [hd]
                    clear hgk hin HYES hd
                    go_wp2_with fail
                    go_roundw
                    case rel => exact ⟨k + 1, N, by go_num, by omega, by omega, HGK, HON.out, HOA.out, hap, HB.out⟩
                    case measure => simp [intOf]; omega
                  · have HGK := Lib.hid ((hgk.out.push hkw hin).congr HYES.out)
                    have hd : decide ((k : Int) ∈ N) = false := decide_eq_false hin
                    rw [hd]
                    have HM := Lib.hid (show N.map (Value.int .i64) ++ [.int .i64 k] = (N ++ [(k : Int)]).map (Value.int .i64) by simp)
                    clear hgk hin HYES hd
                    go_wp2_with (at_builtin; refine wpList_push2 _ rfl _ _ 22 rfl W.heap.size 3 i0 (.int .i64 0) 1 8 Tryd.underlying22 hi0 hz0 hz1 hz2 rfl (by decide) _ _ _ rfl (HON.out.alloc _) ⟨wr.heap.size, 0, none⟩ 1 [.int .i64 k] rfl rfl (cell_one_new _ _ _) (one1 _ _) (by unfold maxLen; omega) (by omega) (by simp; omega) ?_)
                    intro gg cap w7 ho7 hg7 hat
                    have hb7 := (HB.out.alloc hsz (.cells #[.int .i64 k] 3)).grown hg7 (by simp; omega) (fun k hk => (HON.out.lt k hk).1)
                    have hoa7 := owns_apart (HOA.out.alloc (.cells #[.int .i64 k] 3)) hg7 hap.out
                    have hap7 := Lib.hid (apart_push (v := .slice no N.length nc) (w := wr) (n := N.length + 1) (cap := cap) hap.out HOA.out hat)
                    rw [HM.out] at ho7
                    have HO7 := Lib.hid ho7
                    have HOA7 := Lib.hid hoa7
                    have HB7 := Lib.hid hb7
                    clear ho7 hb7 hg7 hat hoa7 hap HON HOA HB
                    go_wp2_with fail
                    go_roundw
                    case rel => exact ⟨k + 1, N ++ [(k : Int)], by go_num, by omega, by omega, HGK, by rw [List.length_append]; exact HO7.out, HOA7.out, hap7, HB7.out⟩
                    case measure => simp [intOf]; omega
            · have hkw2 : k = ws.length + 1 := by omega
              have HGK := Lib.hid (hgk.out.congr (Mid.done (by omega)))
              have HON := Lib.hid hon
              have HOA := Lib.hid hoa
              have HB := Lib.hid hb
              clear hgk hon hoa hb
              go_wp2_with fail
              go_roundw
              case rel => exact ⟨p + 1, N, by go_num, by omega, HGK, HON.out, HOA.out, hap, HB.out⟩
              case measure => simp [intOf]; omega
        · have hpe : p = A.length := by omega
          subst hpe
          have HGN := Lib.hid (Got.next hgot.out hgn.out)
          rw [← HTK.out] at HGN
          have HON := Lib.hid hon
          have HB := Lib.hid hb
          clear hgn hgot hoa hap hon hb
          go_wp2_with fail
          go_roundw
          case rel => exact ⟨t + 1, N, by go_num, by omega, HGN, HON.out, HB.out⟩
          case measure => simp [intOf]; omega
    · have hte : xs.take t = xs := List.take_of_length_le (by omega)
      rw [hte] at hgot
      have HG := Lib.hid hgot.out
      have HO := Lib.hid ho
      clear hgot ho
      go_wp2_with fail
      go_ret
      exact ⟨_, A, rfl, HO.out, HG.out, hb⟩
end Go.Proofs.YtfdjnofkoegbdaaDoor
