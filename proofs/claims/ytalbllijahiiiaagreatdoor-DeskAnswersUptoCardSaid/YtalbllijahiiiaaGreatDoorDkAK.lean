/- rose.Less. -/
import Derived.Test.YtalbllijahiiiaaGreatDoorDkAJ
namespace Go.Proofs.YtalbllijahiiiaaGreatDoor
open Go.RowKit Go.Mine Go.Mine.Desk

def LessPost (g : G) (l : List Int) (w : World) (e : Ending) (w' : World) : Prop :=
  Below w.heap.size w w' ∧ ((∃ x u, replay g l = .ok x ∧ e = .returned (.tuple #[u, .nilIface]) ∧ GridOwn w' w.heap.size u (less g l)) ∨ (∃ c, replay g l = .error c ∧ e = .returned (.tuple #[.slice none 0 0, .iface 36 (.int .i64 c)])))
structure LInv (g : G) (l : List Int) (lo : Option Addr) (lc : Nat) (gk ga gb : Int) (gao : Option Addr) (gn gc : Nat) (B ob : Nat) (rows : List (List Int)) (w wr : World) : Prop where
  below : Below w.heap.size w wr
  kg : Blk wr B 28 #[.int .i64 gk, .int .i64 ga, .int .i64 gb, .slice gao gn gc]
  kt : Blk wr (B + 1) 48 #[.slice lo l.length lc]
  out : ∃ u, Blk wr ob 58 #[u] ∧ GridOwn wr (ob + 1) u rows
theorem LInv.on {g : G} {l : List Int} {lo : Option Addr} {lc : Nat} {gk ga gb : Int} {gao : Option Addr} {gn gc B ob : Nat} {rows : List (List Int)} {w wr w' : World} (h : LInv g l lo lc gk ga gb gao gn gc B ob rows w wr) (hb : Below wr.heap.size wr w') : LInv g l lo lc gk ga gb gao gn gc B ob rows w w' := by
  obtain ⟨u, h1, h2⟩ := h.out
  exact ⟨h.below.trans (hb.mono h.below.size), h.kg.below hb, h.kt.below hb, u, h1.below hb, h2.below hb⟩
structure JInv (l : List Int) (lo : Option Addr) (lc : Nat) (gk ga gb : Int) (gao : Option Addr) (gn gc : Nat) (B ob : Nat) (rows : List (List Int)) (Z Z2 : Nat) (w wt wj : World) : Prop where
  below : Below w.heap.size w wj
  kg : Blk wj B 28 #[.int .i64 gk, .int .i64 ga, .int .i64 gb, .slice gao gn gc]
  kt : Blk wj (B + 1) 48 #[.slice lo l.length lc]
  out : ∃ u, Blk wj ob 58 #[u] ∧ GridOwn wj (ob + 1) u rows ∧ ∀ q, u.ownBlock = some q → q < Z ∨ Z2 ≤ q
  same : ∀ q, Z ≤ q → q < Z2 → wj.heap[q]? = wt.heap[q]?
  size : Z2 ≤ wj.heap.size
theorem owns_len {w : World} {base : Nat} {e : TypeId} {size : Nat} {v : Value} {n : Nat} {xs : List Value} (h : w.ownsRow base e size v n xs) : n ≤ maxLen := by
  rcases h.2 with ⟨_, h0⟩ | ⟨g, cap, cur, _, _, _, hcap, hmx, _⟩
  · omega
  · omega
set_option maxRecDepth 100000 in
set_option maxHeartbeats 4000000 in
theorem less_any (g : G) (v : Value) (hr : g.right) (l : List Int) (lo : Option Addr) (lc : Nat) (hl : l.length ≤ maxLen) (hi64 : ∀ x ∈ l, i64ok x) (w : World) (hv : GenAt w v g) (hat : IntsAt .i64 w lo l) :
    Calls Tryz.prog 62 #[v, .slice lo l.length lc] w (LessPost g l w) := by
  obtain ⟨gk, ga, gb, gao, gn, gc, hsh⟩ := hv.shape
  have hmf : ∀ (fn : Fn) (first cap : Array Value) (w : World), (Instr.makeFunc fn first cap).run Tryz.prog w = .ok (.func fn first cap) w := fun _ _ _ _ => rfl
  have hnn := neq_nil
  obtain ⟨w0, hw0⟩ : ∃ w0, w0 = (w.alloc (.cells #[.int .i64 gk, .int .i64 ga, .int .i64 gb, .slice gao gn gc] 28)).alloc (.cells #[.slice lo l.length lc] 48) := ⟨_, rfl⟩
  have hs0 : w0.heap.size = w.heap.size + 2 := by rw [hw0]; simp
  have hb0 : Below w.heap.size w w0 := by rw [hw0]; exact ((Below.refl w.heap.size w).alloc (Nat.le_refl _) _).alloc (by simp) _
  have k0 : Blk w0 w.heap.size 28 #[.int .i64 gk, .int .i64 ga, .int .i64 gb, .slice gao gn gc] := by rw [hw0]; exact (Blk.new _ _ _).alloc _
  have k1 : Blk w0 (w.heap.size + 1) 48 #[.slice lo l.length lc] := by rw [hw0]; have := Blk.new (w.alloc (.cells #[.int .i64 gk, .int .i64 ga, .int .i64 gb, .slice gao gn gc] 28)) 48 #[.slice lo l.length lc]; simpa using this
  have HC := Lib.hid (replay_any g v hr l lo l.length lc rfl hl w0 (hv.on hb0) (hat.below (Nat.le_refl _) hb0))
  obtain ⟨B, hB⟩ : ∃ B, w.heap.size = B := ⟨_, rfl⟩
  have HK := Lib.hid (And.intro hb0 (And.intro k0 k1))
  have HW := Lib.hid hw0
  have HV := Lib.hid (And.intro hv (And.intro hat (And.intro hi64 hr)))
  have HS0 := Lib.hid hs0
  rw [hsh] at HC
  have c0 : w0.cell? ⟨B, 0, none⟩ = some (.int .i64 gk) := by rw [← hB]; exact k0.cell 0
  have c1 : w0.cell? ⟨B, 1, none⟩ = some (.int .i64 ga) := by rw [← hB]; exact k0.cell 1
  have c2 : w0.cell? ⟨B, 2, none⟩ = some (.int .i64 gb) := by rw [← hB]; exact k0.cell 2
  have c3 : w0.cell? ⟨B, 3, none⟩ = some (.slice gao gn gc) := by rw [← hB]; exact k0.cell 3
  have d0 : w0.cell? ⟨B + 1, 0, none⟩ = some (.slice lo l.length lc) := by rw [← hB]; exact k1.cell 0
  have HSH := Lib.hid hsh
  rw [hsh]
  rw [hw0] at HC c0 c1 c2 c3 d0
  clear hw0 hb0 k0 k1 hs0 hv hat hr hi64 hsh
  go_enter Tryz.func62, Tryz.ntmps62
  go_wp2_with fail
  refine HC.out.mono ?_
  clear HC
  rintro e w1 ⟨hb1, hhow⟩
  rw [← HW.out] at hb1
  clear c0 c1 c2 c3 d0
  have hb1' := HK.out.1.trans (hb1.mono HK.out.1.size)
  have hs1 := hb1.size
  rw [HS0.out, hB] at hs1
  rcases hhow with ⟨x, vv, hx, rfl, hval⟩ | ⟨cc, hx, rfl⟩
  · obtain ⟨vk, vz, vao, vn, vc, rfl⟩ := hval.shape
    have hl6 := replay_short HV.out.2.2.2 hx
    obtain ⟨w2, hw2⟩ : ∃ w2, w2 = (w1.alloc (.cells #[.bool vk, .int .i64 vz, .slice vao vn vc] 53)).alloc (.cells #[.slice none 0 0] 58) := ⟨_, rfl⟩
    have hb2 : Below w1.heap.size w1 w2 := by rw [hw2]; exact ((Below.refl w1.heap.size w1).alloc (Nat.le_refl _) _).alloc (by simp) _
    have ko : Blk w2 (w1.heap.size + 1) 58 #[.slice none 0 0] := by rw [hw2]; have := Blk.new (w1.alloc (.cells #[.bool vk, .int .i64 vz, .slice vao vn vc] 53)) 58 #[.slice none 0 0]; simpa using this
    have kt2 := (HK.out.2.2.below hb1).below hb2
    rw [hB] at kt2
    have d0 : w2.cell? ⟨B + 1, 0, none⟩ = some (.slice lo l.length lc) := kt2.cell 0
    have kg2 := (HK.out.2.1.below hb1).below hb2
    rw [hB] at kg2
    obtain ⟨P, hP⟩ : ∃ P, w1.heap.size = P := ⟨_, rfl⟩
    rw [hP] at ko
    have HI0 := Lib.hid (show LInv g l lo lc gk ga gb gao gn gc B (P + 1) [] w w2 from ⟨hb1'.trans (hb2.mono hb1'.size), kg2, kt2, _, ko, GridOwn.nil _ _⟩)
    have HX := Lib.hid hx
    have HW2 := Lib.hid hw2
    rw [hw2] at d0
    have hent1 := less1_enters
    have hent2 := less2_enters
    rw [hP] at hs1
    clear hval hb1 hb1' hb2 ko kt2 kg2 hw2 hx
    go_wp2_with fail
    rw [← HW2.out]
    go_loopw [11, 12, 13, 15, 16, 30] (fun _ _ _ _ _ kv wr => ∃ k : Nat, kv = .int .i64 (k : Int) ∧ k ≤ l.length ∧ RowKit.Hid (LInv g l lo lc gk ga gb gao gn gc B (P + 1) ((List.range k).flatMap (lessAt g l)) w wr)) (fun _ _ _ _ _ kv _ => l.length - (intOf kv).toNat)
    case atStart => exact ⟨0, rfl, by omega, HI0⟩
    case round =>
      obtain ⟨k, rfl, hk, HI⟩ := hrel
      rcases Nat.lt_or_ge k l.length with hkn | hkn
      · obtain ⟨b, o, rfl, hx0⟩ := HV.out.2.1 k hkn
        have hx := (HI.out.below.cell (World.block_lt_of_cell? w _ hx0)).trans hx0
        have hmem : l[k]? = some (l.getD k 0) := by simp [hkn]
        have hxi := HV.out.2.2.1 _ (List.mem_of_getElem? hmem)
        obtain ⟨x0, hxe⟩ : ∃ x0, l.getD k 0 = x0 := ⟨_, rfl⟩
        rw [hxe] at hx hxi
        have hi0' : (0 : Int) ≤ (k : Int) := by omega
        have hi1 : (k : Int) < (l.length : Int) := by omega
        have hw1 : IntKind.i64.wrap ((k : Int) + 1) = ((k + 1 : Nat) : Int) := by rw [IntWalk.i64_in _ (by omega)]; omega
        obtain ⟨i0, hi0, hz0, hz1, hz2⟩ := info_parts infoInts
        have hat' : ∀ w', Below wr.heap.size wr w' → IntsAt .i64 w' (some ⟨b, o, none⟩) l := fun w' hb => (HV.out.2.1.below (Nat.le_refl _) HI.out.below).below (Nat.le_refl _) hb
        have HSET := Lib.hid (fun (y : Int) (w' : World) (hb : Below wr.heap.size wr w') => set_any (some ⟨b, o, none⟩) lc k y l (by omega) hkn (B + 1) w' (HI.out.kt.below hb) (hat' w' hb))
        have HCL := Lib.hid (fun (w' : World) (hb : Below wr.heap.size wr w') => clone_any (some ⟨b, o, none⟩) lc l (by omega) w' (hat' w' hb))
        have HXE := Lib.hid hxe
        clear hx0 hmem hat'
        by_cases hpos : 0 < x0
        · unfold i64ok at hxi
          obtain ⟨y, hy⟩ : ∃ y, x0 / 2 = y := ⟨_, rfl⟩
          have hq : x0.tdiv 2 = y := by rw [Int.tdiv_eq_ediv_of_nonneg (by omega)]; exact hy
          have hq2 : IntKind.i64.wrap y = y := IntWalk.i64_in _ (by omega)
          have hq3 : wrap64 y = y := by unfold wrap64; omega
          have hq4 : IntKind.i64.wrap (x0 - 1) = x0 - 1 := IntWalk.i64_in _ (by omega)
          have hq5 : wrap64 (x0 - 1) = x0 - 1 := by unfold wrap64; omega
          have HT1 := Lib.hid (HSET.out 0 wr (Below.refl _ _))
          have HY := Lib.hid hy
          clear hy
          go_wp2_with fail
          refine HT1.out.mono ?_
          clear HT1
          rintro e w3 ⟨⟨v0, n0, rfl, hr0⟩, hb3⟩
          have HT2 := Lib.hid (HSET.out y w3 hb3)
          have HR0 := Lib.hid (And.intro hr0 hb3)
          clear hr0 hb3
          go_wp2_with fail
          refine HT2.out.mono ?_
          clear HT2
          rintro e w4 ⟨⟨v1, n1, rfl, hr1⟩, hb4⟩
          have hb4' := HR0.out.2.trans (hb4.mono HR0.out.2.size)
          have HT3 := Lib.hid (HSET.out (x0 - 1) w4 hb4')
          have HR1 := Lib.hid (And.intro (owns_below HR0.out.1 hb4) (And.intro (owns_mono hr1 HR0.out.2.size) hb4'))
          clear hr1 hb4 hb4' HR0
          go_wp2_with fail
          refine HT3.out.mono ?_
          clear HT3
          rintro e w5 ⟨⟨v2, n2, rfl, hr2⟩, hb5⟩
          have HR2 := Lib.hid (And.intro (owns_below HR1.out.1 hb5) (And.intro (owns_below HR1.out.2.1 hb5) (And.intro (owns_mono hr2 HR1.out.2.2.size) (HR1.out.2.2.trans (hb5.mono HR1.out.2.2.size)))))
          have hsz5 := HR2.out.2.2.2.size
          clear hr2 hb5 HR1
          go_wp2_with (at_builtin; refine wpList_extend2 _ rfl _ _ 58 rfl wr.heap.size 48 i0 (.slice none 0 0) 1 24 Tryz.underlying58 hi0 hz0 hz1 hz2 rfl (by decide) _ 0 [] rfl (World.ownsRow_nil _ _ _ _) ⟨w5.heap.size, 0, none⟩ 3 3 [.slice v0 l.length n0, .slice v1 l.length n1, .slice v2 l.length n2] rfl rfl (World.news_of_block (cs := #[.slice v0 l.length n0, .slice v1 l.length n1, .slice v2 l.length n2]) (t := 48) (fr := (0, 0)) (heap_alloc_at _ _ rfl)) (by simp [Value.oneCell']) (by omega) (by unfold maxLen; omega) (by omega) (by simp; omega) ?_)
          intro g7 cap w7 hown hgr hat7
          have HG7 := Lib.hid (show GridOwn w7 wr.heap.size (.slice (some ⟨g7, 0, none⟩) 3 cap) [l.set k 0, l.set k y, l.set k (x0 - 1)] from GridOwn.three (by simpa using HR2.out.1) (by simpa using HR2.out.2.1) (by simpa using HR2.out.2.2.1) hown hgr)
          have HB7 := Lib.hid (show Below wr.heap.size wr w7 from (HR2.out.2.2.2.alloc hsz5 _).grown hgr (by simp; omega) fun q hq => by cases hq)
          clear hown hgr hat7
          have HT4 := Lib.hid (HCL.out w7 HB7.out)
          have hkt7 := HI.out.kt.below HB7.out
          have t0 : w7.cell? ⟨B + 1, 0, none⟩ = some (.slice (some ⟨b, o, none⟩) l.length lc) := hkt7.cell 0
          have hsz7 := HB7.out.size
          clear hkt7
          go_wp2_with fail
          refine HT4.out.mono ?_
          clear HT4
          rintro e w8 ⟨⟨v3, n3, rfl, hr3⟩, hb8⟩
          have HT5 := Lib.hid (del_any v3 n3 k w7.heap.size l hkn w8 hr3)
          have HR3 := Lib.hid (And.intro hr3 hb8)
          clear hr3 hb8
          go_wp2_with fail
          refine HT5.out.mono ?_
          clear HT5
          rintro e w9 ⟨rfl, hr4, hg9⟩
          have hb79 : Below w7.heap.size w7 w9 := Below.grown HR3.out.2 hg9 HR3.out.2.size fun q hq => (HR3.out.1.lt q hq).1
          have hgr9 := HG7.out.below hb79
          have hb9 := HB7.out.trans (hb79.mono HB7.out.size)
          obtain ⟨vs, hv1, hv2⟩ := hgr9
          have HV9 := Lib.hid (And.intro hv1 (And.intro hv2 (And.intro (owns_mono hr4 HB7.out.size) hb9)))
          have hsz9 := hb9.size
          clear hr4 hg9 hb79 hv1 hv2 hb9 t0
          go_wp2_with (at_builtin; refine wpList_push2 _ rfl _ _ 58 rfl wr.heap.size 48 i0 (.slice none 0 0) 1 24 Tryz.underlying58 hi0 hz0 hz1 hz2 rfl (by decide) _ _ _ rfl (HV9.out.1.alloc _) ⟨w9.heap.size, 0, none⟩ 1 [.slice v3 (l.length - 1) n3] rfl rfl (World.news_of_block (cs := #[.slice v3 (l.length - 1) n3]) (t := 48) (fr := (0, 0)) (heap_alloc_at _ _ rfl)) (by simp [Value.oneCell']) (by unfold maxLen; simp) (by simp) (by simp; omega) ?_)
          intro g10 cap10 w10 hown10 hgr10 hat10
          have HG10 := Lib.hid (show GridOwn w10 wr.heap.size (.slice (some ⟨g10, 0, none⟩) 4 cap10) (tries l k) from by
            have h := GridOwn.push HV9.out.1 HV9.out.2.1 HV9.out.2.2.1 hown10 hgr10
            rw [show tries l k = [l.set k 0, l.set k y, l.set k (x0 - 1)] ++ [l.eraseIdx k] by unfold tries; rw [HXE.out]; rw [if_pos hpos, HY.out]]
            exact h)
          have HB10 := Lib.hid (show Below wr.heap.size wr w10 from ((HV9.out.2.2.2.alloc hsz9 _).grown hgr10 (by simp; omega) fun q hq => (HV9.out.1.lt q hq).1))
          clear hown10 hgr10 hat10
          go_wp2_with fail
          obtain ⟨N, hN⟩ : ∃ N, (tries l k).length = N := ⟨_, rfl⟩
          have hNN : N = 4 := by rw [← hN]; unfold tries; rw [HXE.out]; rw [if_pos hpos]; rfl
          obtain ⟨Z, hZ⟩ : ∃ Z, wr.heap.size = Z := ⟨_, rfl⟩
          rw [hZ] at HG10
          have hzz : Z ≤ w10.heap.size := by have := HB10.out.size; omega
          have hoz : P + 1 < Z := by obtain ⟨u0, hq0, _⟩ := HI.out.out; have := hq0.lt; omega
          go_loopw [15, 16, 63] (fun _ _ jv wr => ∃ j : Nat, jv = .int .i64 (j : Int) ∧ j ≤ 4 ∧ RowKit.Hid ((((List.range k).flatMap (lessAt g l) ++ ((tries l k).take j).flatMap (kept g l)).length ≤ 4 * k + j) ∧ JInv l (some ⟨b, o, none⟩) lc gk ga gb gao gn gc B (P + 1) ((List.range k).flatMap (lessAt g l) ++ ((tries l k).take j).flatMap (kept g l)) Z w10.heap.size w w10 wr)) (fun _ _ jv _ => 4 - (intOf jv).toNat)
          case atStart =>
            obtain ⟨u, q1, q2⟩ := HI.out.out
            refine ⟨0, rfl, by omega, Lib.hid ⟨by simpa using less_len g l k, HI.out.below.trans (HB10.out.mono HI.out.below.size), HI.out.kg.below HB10.out, HI.out.kt.below HB10.out, ⟨u, q1.below HB10.out, by simpa using q2.below HB10.out, fun q hq => .inl (by rw [← hZ]; obtain ⟨vs, h1, _⟩ := q2; exact (h1.lt q hq).2)⟩, fun _ _ _ => rfl, Nat.le_refl _⟩⟩
          case round =>
            obtain ⟨j, rfl, hj, HJ⟩ := hrel
            rcases Nat.lt_or_ge j 4 with hjn | hjn
            · obtain ⟨vs, hv1, hv2⟩ := HG10.out
              obtain ⟨vj, hvj, hoj⟩ := hv2 j (by omega)
              rw [show (tries l k).length = 4 from hN.trans hNN] at hv1
              obtain ⟨jo, jc, rfl⟩ := owns_shape hoj
              have hmem : (tries l k)[j]? = some ((tries l k).getD j []) := by simp [show j < (tries l k).length by omega]
              obtain ⟨t, ht⟩ : ∃ t, (tries l k).getD j [] = t := ⟨_, rfl⟩
              rw [ht] at hvj hoj hmem
              have hg10 := hv1.lt g10 rfl
              have hcell := hv1.cellAt j (by omega)
              rw [hvj] at hcell
              have hcj : wr.cell? ⟨g10, j, none⟩ = some (.slice jo t.length jc) := by
                rw [← hcell]
                exact World.cell?_of_block (HJ.out.2.same g10 hg10.1 hg10.2)
              have hoj' : wr.ownsRow Z 3 1 (.slice jo t.length jc) t.length (t.map (.int .i64)) := owns_same hoj fun q hq => HJ.out.2.same q (hoj.lt q hq).1 (hoj.lt q hq).2
              obtain ⟨u, hu1, hu2, hu3⟩ := HJ.out.2.out
              have hob := hu1.lt
              have HUB := Lib.hid (show ∀ q, u.ownBlock = some q → P + 1 + 1 ≤ q from fun q hq => by obtain ⟨vs2, hq2, _⟩ := hu2; exact (hq2.lt q hq).1)
              have HKC := Lib.hid (keep_any g v HV.out.2.2.2 l t (some ⟨b, o, none⟩) jo l.length lc t.length jc rfl hl rfl (owns_len hoj) B (B + 1) (P + 1) (P + 1 + 1) gk ga gb gao gn gc HSH.out u _ wr (HV.out.1.on HJ.out.2.below) (IntsAt.of_owns hoj') (HV.out.2.1.below (Nat.le_refl _) HJ.out.2.below) HJ.out.2.kg HJ.out.2.kt hu1 hu2 (by omega) (by omega) (by have := HJ.out.1; omega))
              have HUU := Lib.hid (And.intro hu3 (And.intro hmem hob))
              have hj0 : (0 : Int) ≤ (j : Int) := by omega
              have hj1 : (j : Int) < 4 := by omega
              have hw2 : IntKind.i64.wrap ((j : Int) + 1) = ((j + 1 : Nat) : Int) := by rw [IntWalk.i64_in _ (by omega)]; omega
              clear hv1 hv2 hvj hoj hcell hoj' hu1 hu2 hu3 hmem ht
              go_wp2_with fail
              refine HKC.out.mono ?_
              clear HKC
              rintro e wk ⟨rfl, htk, u2, hk2, hg2, hu2⟩
              have HJ2 := Lib.hid (show JInv l (some ⟨b, o, none⟩) lc gk ga gb gao gn gc B (P + 1) ((List.range k).flatMap (lessAt g l) ++ ((tries l k).take (j + 1)).flatMap (kept g l)) Z w10.heap.size w w10 wk from by
                have hsz := HJ.out.2.size
                have hPB : B + 4 ≤ P + 4 := by omega
                have hnot : ∀ q, q < wr.heap.size → q ≠ P + 1 → u.ownBlock ≠ some q → wk.heap[q]? = wr.heap[q]? := fun q h1 h2 h3 => htk.block q h1 (fun h => by rcases h with h | h; exact h2 h; exact h3 h)
                have huB : ∀ q, q ≤ P + 1 → u.ownBlock ≠ some q := fun q h1 h2 => by have := HUB.out q h2; omega
                have hgl := HJ.out.2.kg.lt
                have htl := HJ.out.2.kt.lt
                refine ⟨?_, HJ.out.2.kg.same (hnot _ hgl (by omega) (huB _ (by omega))), HJ.out.2.kt.same (hnot _ htl (by omega) (huB _ (by omega))), ⟨u2, hk2, ?_, fun q hq => ?_⟩, fun q h1 h2 => ?_, by have := htk.size; omega⟩
                · exact HJ.out.2.below.trans (htk.below (B := w.heap.size) HJ.out.2.below.size (fun q hq => by
                    rcases hq with h | h
                    · omega
                    · have := HUB.out q h; omega))
                · rw [List.take_add_one, HUU.out.2.1, List.flatMap_append]
                  simpa using hg2
                · rcases hu2 q hq with h | h
                  · exact HUU.out.1 q h
                  · exact .inr (by omega)
                · rw [hnot q (by omega) (by omega) (fun h => by rcases HUU.out.1 q h with h3 | h3 <;> omega)]
                  exact HJ.out.2.same q h1 h2)
              have HFEW := Lib.hid (show (((List.range k).flatMap (lessAt g l) ++ ((tries l k).take (j + 1)).flatMap (kept g l)).length ≤ 4 * k + (j + 1)) from by
                have h1 := HJ.out.1
                have h2 := kept_len g l t
                rw [List.take_add_one, HUU.out.2.1, List.flatMap_append]
                simp at h1 ⊢
                omega)
              clear htk hk2 hg2 hu2
              go_wp2_with fail
              go_roundw
              case rel => exact ⟨j + 1, by go_num, by omega, Lib.hid ⟨HFEW.out, HJ2.out⟩⟩
              case measure => simp [intOf]; omega
            · obtain rfl : j = 4 := by omega
              have hrows : (List.range k).flatMap (lessAt g l) ++ ((tries l k).take 4).flatMap (kept g l) = (List.range (k + 1)).flatMap (lessAt g l) := by
                rw [less_snoc, lessAt_kept, List.take_of_length_le (by omega)]
              have hji := HJ.out.2
              rw [hrows] at hji
              obtain ⟨u, hu1, hu2, _⟩ := hji.out
              have HL2 := Lib.hid (show LInv g l (some ⟨b, o, none⟩) lc gk ga gb gao gn gc B (P + 1) ((List.range (k + 1)).flatMap (lessAt g l)) w wr from ⟨hji.below, hji.kg, hji.kt, u, hu1, hu2⟩)
              clear hji hu1 hu2
              go_wp2_with fail
              go_roundw
              case rel => exact ⟨k + 1, by go_num, by omega, HL2⟩
              case measure => simp [intOf]; omega
        · have HBN := Lib.hid (Below.refl wr.heap.size wr)
          have HGN := Lib.hid (GridOwn.nil wr wr.heap.size)
          have hpos' : x0 ≤ 0 := by omega
          have HT4 := Lib.hid (HCL.out wr HBN.out)
          have hkt7 := HI.out.kt.below HBN.out
          have t0 : wr.cell? ⟨B + 1, 0, none⟩ = some (.slice (some ⟨b, o, none⟩) l.length lc) := hkt7.cell 0
          have hsz7 := HBN.out.size
          clear hkt7
          go_wp2_with fail
          refine HT4.out.mono ?_
          clear HT4
          rintro e w8 ⟨⟨v3, n3, rfl, hr3⟩, hb8⟩
          have HT5 := Lib.hid (del_any v3 n3 k wr.heap.size l hkn w8 hr3)
          have HR3 := Lib.hid (And.intro hr3 hb8)
          clear hr3 hb8
          go_wp2_with fail
          refine HT5.out.mono ?_
          clear HT5
          rintro e w9 ⟨rfl, hr4, hg9⟩
          have hb79 : Below wr.heap.size wr w9 := Below.grown HR3.out.2 hg9 HR3.out.2.size fun q hq => (HR3.out.1.lt q hq).1
          have hgr9 := HGN.out.below hb79
          have hb9 := HBN.out.trans (hb79.mono HBN.out.size)
          obtain ⟨vs, hv1, hv2⟩ := hgr9
          have HV9 := Lib.hid (And.intro hv1 (And.intro hv2 (And.intro (owns_mono hr4 HBN.out.size) hb9)))
          have hsz9 := hb9.size
          clear hr4 hg9 hb79 hv1 hv2 hb9 t0
          go_wp2_with (at_builtin; refine wpList_push2 _ rfl _ _ 58 rfl wr.heap.size 48 i0 (.slice none 0 0) 1 24 Tryz.underlying58 hi0 hz0 hz1 hz2 rfl (by decide) _ _ _ rfl (HV9.out.1.alloc _) ⟨w9.heap.size, 0, none⟩ 1 [.slice v3 (l.length - 1) n3] rfl rfl (World.news_of_block (cs := #[.slice v3 (l.length - 1) n3]) (t := 48) (fr := (0, 0)) (heap_alloc_at _ _ rfl)) (by simp [Value.oneCell']) (by unfold maxLen; simp) (by simp) (by simp; omega) ?_)
          intro g10 cap10 w10 hown10 hgr10 hat10
          have HG10 := Lib.hid (show GridOwn w10 wr.heap.size (.slice (some ⟨g10, 0, none⟩) 1 cap10) (tries l k) from by
            have h := GridOwn.push HV9.out.1 HV9.out.2.1 HV9.out.2.2.1 hown10 hgr10
            rw [show tries l k = ([] : List (List Int)) ++ [l.eraseIdx k] by unfold tries; rw [HXE.out]; rw [if_neg (show ¬ 0 < x0 by omega)]]
            exact h)
          have HB10 := Lib.hid (show Below wr.heap.size wr w10 from ((HV9.out.2.2.2.alloc hsz9 _).grown hgr10 (by simp; omega) fun q hq => (HV9.out.1.lt q hq).1))
          clear hown10 hgr10 hat10
          go_wp2_with fail
          obtain ⟨N, hN⟩ : ∃ N, (tries l k).length = N := ⟨_, rfl⟩
          have hNN : N = 1 := by rw [← hN]; unfold tries; rw [HXE.out]; rw [if_neg (show ¬ 0 < x0 by omega)]; rfl
          obtain ⟨Z, hZ⟩ : ∃ Z, wr.heap.size = Z := ⟨_, rfl⟩
          rw [hZ] at HG10
          have hzz : Z ≤ w10.heap.size := by have := HB10.out.size; omega
          have hoz : P + 1 < Z := by obtain ⟨u0, hq0, _⟩ := HI.out.out; have := hq0.lt; omega
          go_loopw [15, 16, 63] (fun _ _ jv wr => ∃ j : Nat, jv = .int .i64 (j : Int) ∧ j ≤ 1 ∧ RowKit.Hid ((((List.range k).flatMap (lessAt g l) ++ ((tries l k).take j).flatMap (kept g l)).length ≤ 4 * k + j) ∧ JInv l (some ⟨b, o, none⟩) lc gk ga gb gao gn gc B (P + 1) ((List.range k).flatMap (lessAt g l) ++ ((tries l k).take j).flatMap (kept g l)) Z w10.heap.size w w10 wr)) (fun _ _ jv _ => 1 - (intOf jv).toNat)
          case atStart =>
            obtain ⟨u, q1, q2⟩ := HI.out.out
            refine ⟨0, rfl, by omega, Lib.hid ⟨by simpa using less_len g l k, HI.out.below.trans (HB10.out.mono HI.out.below.size), HI.out.kg.below HB10.out, HI.out.kt.below HB10.out, ⟨u, q1.below HB10.out, by simpa using q2.below HB10.out, fun q hq => .inl (by rw [← hZ]; obtain ⟨vs, h1, _⟩ := q2; exact (h1.lt q hq).2)⟩, fun _ _ _ => rfl, Nat.le_refl _⟩⟩
          case round =>
            obtain ⟨j, rfl, hj, HJ⟩ := hrel
            rcases Nat.lt_or_ge j 1 with hjn | hjn
            · obtain ⟨vs, hv1, hv2⟩ := HG10.out
              obtain ⟨vj, hvj, hoj⟩ := hv2 j (by omega)
              rw [show (tries l k).length = 1 from hN.trans hNN] at hv1
              obtain ⟨jo, jc, rfl⟩ := owns_shape hoj
              have hmem : (tries l k)[j]? = some ((tries l k).getD j []) := by simp [show j < (tries l k).length by omega]
              obtain ⟨t, ht⟩ : ∃ t, (tries l k).getD j [] = t := ⟨_, rfl⟩
              rw [ht] at hvj hoj hmem
              have hg10 := hv1.lt g10 rfl
              have hcell := hv1.cellAt j (by omega)
              rw [hvj] at hcell
              have hcj : wr.cell? ⟨g10, j, none⟩ = some (.slice jo t.length jc) := by
                rw [← hcell]
                exact World.cell?_of_block (HJ.out.2.same g10 hg10.1 hg10.2)
              have hoj' : wr.ownsRow Z 3 1 (.slice jo t.length jc) t.length (t.map (.int .i64)) := owns_same hoj fun q hq => HJ.out.2.same q (hoj.lt q hq).1 (hoj.lt q hq).2
              obtain ⟨u, hu1, hu2, hu3⟩ := HJ.out.2.out
              have hob := hu1.lt
              have HUB := Lib.hid (show ∀ q, u.ownBlock = some q → P + 1 + 1 ≤ q from fun q hq => by obtain ⟨vs2, hq2, _⟩ := hu2; exact (hq2.lt q hq).1)
              have HKC := Lib.hid (keep_any g v HV.out.2.2.2 l t (some ⟨b, o, none⟩) jo l.length lc t.length jc rfl hl rfl (owns_len hoj) B (B + 1) (P + 1) (P + 1 + 1) gk ga gb gao gn gc HSH.out u _ wr (HV.out.1.on HJ.out.2.below) (IntsAt.of_owns hoj') (HV.out.2.1.below (Nat.le_refl _) HJ.out.2.below) HJ.out.2.kg HJ.out.2.kt hu1 hu2 (by omega) (by omega) (by have := HJ.out.1; omega))
              have HUU := Lib.hid (And.intro hu3 (And.intro hmem hob))
              have hj0 : (0 : Int) ≤ (j : Int) := by omega
              have hj1 : (j : Int) < 1 := by omega
              have hw2 : IntKind.i64.wrap ((j : Int) + 1) = ((j + 1 : Nat) : Int) := by rw [IntWalk.i64_in _ (by omega)]; omega
              clear hv1 hv2 hvj hoj hcell hoj' hu1 hu2 hu3 hmem ht
              go_wp2_with fail
              refine HKC.out.mono ?_
              clear HKC
              rintro e wk ⟨rfl, htk, u2, hk2, hg2, hu2⟩
              have HJ2 := Lib.hid (show JInv l (some ⟨b, o, none⟩) lc gk ga gb gao gn gc B (P + 1) ((List.range k).flatMap (lessAt g l) ++ ((tries l k).take (j + 1)).flatMap (kept g l)) Z w10.heap.size w w10 wk from by
                have hsz := HJ.out.2.size
                have hPB : B + 4 ≤ P + 4 := by omega
                have hnot : ∀ q, q < wr.heap.size → q ≠ P + 1 → u.ownBlock ≠ some q → wk.heap[q]? = wr.heap[q]? := fun q h1 h2 h3 => htk.block q h1 (fun h => by rcases h with h | h; exact h2 h; exact h3 h)
                have huB : ∀ q, q ≤ P + 1 → u.ownBlock ≠ some q := fun q h1 h2 => by have := HUB.out q h2; omega
                have hgl := HJ.out.2.kg.lt
                have htl := HJ.out.2.kt.lt
                refine ⟨?_, HJ.out.2.kg.same (hnot _ hgl (by omega) (huB _ (by omega))), HJ.out.2.kt.same (hnot _ htl (by omega) (huB _ (by omega))), ⟨u2, hk2, ?_, fun q hq => ?_⟩, fun q h1 h2 => ?_, by have := htk.size; omega⟩
                · exact HJ.out.2.below.trans (htk.below (B := w.heap.size) HJ.out.2.below.size (fun q hq => by
                    rcases hq with h | h
                    · omega
                    · have := HUB.out q h; omega))
                · rw [List.take_add_one, HUU.out.2.1, List.flatMap_append]
                  simpa using hg2
                · rcases hu2 q hq with h | h
                  · exact HUU.out.1 q h
                  · exact .inr (by omega)
                · rw [hnot q (by omega) (by omega) (fun h => by rcases HUU.out.1 q h with h3 | h3 <;> omega)]
                  exact HJ.out.2.same q h1 h2)
              have HFEW := Lib.hid (show (((List.range k).flatMap (lessAt g l) ++ ((tries l k).take (j + 1)).flatMap (kept g l)).length ≤ 4 * k + (j + 1)) from by
                have h1 := HJ.out.1
                have h2 := kept_len g l t
                rw [List.take_add_one, HUU.out.2.1, List.flatMap_append]
                simp at h1 ⊢
                omega)
              clear htk hk2 hg2 hu2
              go_wp2_with fail
              go_roundw
              case rel => exact ⟨j + 1, by go_num, by omega, Lib.hid ⟨HFEW.out, HJ2.out⟩⟩
              case measure => simp [intOf]; omega
            · obtain rfl : j = 1 := by omega
              have hrows : (List.range k).flatMap (lessAt g l) ++ ((tries l k).take 1).flatMap (kept g l) = (List.range (k + 1)).flatMap (lessAt g l) := by
                rw [less_snoc, lessAt_kept, List.take_of_length_le (by omega)]
              have hji := HJ.out.2
              rw [hrows] at hji
              obtain ⟨u, hu1, hu2, _⟩ := hji.out
              have HL2 := Lib.hid (show LInv g l (some ⟨b, o, none⟩) lc gk ga gb gao gn gc B (P + 1) ((List.range (k + 1)).flatMap (lessAt g l)) w wr from ⟨hji.below, hji.kg, hji.kt, u, hu1, hu2⟩)
              clear hji hu1 hu2
              go_wp2_with fail
              go_roundw
              case rel => exact ⟨k + 1, by go_num, by omega, HL2⟩
              case measure => simp [intOf]; omega
      · obtain rfl : k = l.length := by omega
        obtain ⟨u, hu1, hu2⟩ := HI.out.out
        have u0 : wr.cell? ⟨P + 1, 0, none⟩ = some u := hu1.cell 0
        have HE := Lib.hid (And.intro HI.out.below (show GridOwn wr w.heap.size u (less g l) from by
          obtain ⟨vs, h1, h2⟩ := hu2
          exact ⟨vs, owns_mono h1 (by omega), fun j hj => by
            obtain ⟨v', h3, h4⟩ := h2 j hj
            exact ⟨v', h3, owns_mono h4 (by omega)⟩⟩))
        clear hu1 hu2
        go_wp2_with fail
        go_ret2
        exact ⟨HE.out.1, .inl ⟨x, u, HX.out, rfl, HE.out.2⟩⟩
  · have HX := Lib.hid hx
    have HB1 := Lib.hid (hb1'.alloc hb1'.size (.cells #[.bool false, .int .i64 0, .slice none 0 0] 53))
    have hne := neq_errno cc
    clear hb1 hb1' hx
    go_wp2_with fail
    go_ret2
    exact ⟨HB1.out, .inr ⟨cc, HX.out, rfl⟩⟩
end Go.Proofs.YtalbllijahiiiaaGreatDoor
