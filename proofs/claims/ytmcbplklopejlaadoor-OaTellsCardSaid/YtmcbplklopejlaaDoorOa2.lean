/- oa.Rows. No conditions. -/
import Derived.Test.YtmcbplklopejlaaDoorOa1
import Derived.Test.YtmcbplklopejlaaDoorOuts
namespace Go.Mine
/-- A row of them, so far. -/
def oaRowK (q x y m : Nat) : List Int := (x : Int) :: (List.range m).map fun m => (((m * x + y) % q : Nat) : Int)
def oaRow (q x y : Nat) : List Int := oaRowK q x y q
/-- All rows, so far. -/
def oaRowsK (q n : Nat) : List (List Int) := (List.range n).map fun i => oaRow q (i / q) (i % q)
def oaRows (q : Nat) : List (List Int) := oaRowsK q (q * q)
theorem oaRowK_len (q x y m : Nat) : (oaRowK q x y m).length = m + 1 := by simp [oaRowK]
theorem oaRowsK_len (q n : Nat) : (oaRowsK q n).length = n := by simp [oaRowsK]
theorem oaRowK_succ (q x y m : Nat) : oaRowK q x y (m + 1) = oaRowK q x y m ++ [(((m * x + y) % q : Nat) : Int)] := by simp [oaRowK, List.range_succ]
theorem oaRowsK_succ (q n : Nat) : oaRowsK q (n + 1) = oaRowsK q n ++ [oaRow q (n / q) (n % q)] := by simp [oaRowsK, List.range_succ]
theorem oa_at {q x y : Nat} (hy : y < q) : (x * q + y) / q = x ∧ (x * q + y) % q = y := by
  have h := Nat.div_add_mod (x * q + y) q
  rw [Nat.mul_comm x q]
  refine ⟨?_, ?_⟩
  · rw [Nat.mul_add_div (by omega), Nat.div_eq_of_lt hy, Nat.add_zero]
  · rw [Nat.mul_add_mod, Nat.mod_eq_of_lt hy]
end Go.Mine
namespace Go.Proofs.YtmcbplklopejlaaDoor
open Go.RowKit Go.Mine

theorem infoO3 : (Tryd.prog.info? 3).map (fun i => (i.zero, i.size, i.bytes)) = some (some (.int .i64 0), 1, 8) := by kernel_rfl
theorem infoO27 : (Tryd.prog.info? 24).map (fun i => (i.zero, i.size, i.bytes)) = some (some (.slice none 0 0), 1, 24) := by kernel_rfl
/-- What Rows tells. -/
def OaRowsPost (q : Int) (e : Ending) (w' : World) : Prop :=
  (¬ qok q ∧ e = .returned (.tuple #[.slice none 0 0, .iface 23 (.int .i64 1)])) ∨
  (qok q ∧ ∃ (n : Nat) (ao : Option Addr) (c : Nat), q = n ∧ e = .returned (.tuple #[.slice ao (n * n) c, .nilIface]) ∧ RowsAt w' ao (oaRows n) ∧ n * n ≤ c)
set_option maxHeartbeats 2000000 in
theorem oarows_any (q : Int) (W : World) :
    Calls Tryd.prog 4 #[.int .i64 q] W fun e w' => OaRowsPost q e w' ∧ Below W.heap.size W w' := by
  obtain ⟨i3, hi3, hz31, hz32, hz33⟩ := info_parts infoO3
  obtain ⟨i27, hi27, hz271, hz272, hz273⟩ := info_parts infoO27
  go_enter Tryd.func4, Tryd.ntmps4
  go_wp2_with fail
  refine (oacheck_any q W).mono ?_
  rintro e w1 ⟨⟨hq, rfl⟩ | ⟨hq, rfl⟩, hb1⟩
  rotate_left
  · have HQ := Lib.hid hq
    have HB := Lib.hid hb1
    clear hq hb1
    go_wp2_with fail
    go_ret2
    exact ⟨.inl ⟨HQ.out, rfl⟩, HB.out⟩
  obtain ⟨n, rfl⟩ : ∃ n : Nat, q = n := ⟨q.toNat, by rcases hq with rfl | rfl | rfl | rfl <;> rfl⟩
  have hn7 : n ≤ 7 := by rcases hq with h | h | h | h <;> omega
  have hn2 : 2 ≤ n := by rcases hq with h | h | h | h <;> omega
  have HQ := Lib.hid hq
  have HB1 := Lib.hid hb1
  clear hq hb1
  go_wp2_with fail
  go_loopw [5, 16] (fun ov xv wr => ∃ (x : Nat) (vs : List Value), xv = .int .i64 x ∧ x ≤ n ∧ RowKit.Hid (Outs w1 wr 24 ov vs (oaRowsK n (x * n)))) (fun _ xv _ => n - (intOf xv).toNat)
  case atStart => exact ⟨0, [], rfl, by omega, Lib.hid (by rw [Nat.zero_mul]; exact Outs.nil (Below.refl _ _))⟩
  case round =>
    obtain ⟨x, vs, rfl, hx, ho⟩ := hrel
    by_cases hxn : x < n
    · have HO := Lib.hid ho.out
      clear ho
      go_wp2_with fail
      go_loopw [5, 20] (fun ov yv wr => ∃ (y : Nat) (vs : List Value), yv = .int .i64 y ∧ y ≤ n ∧ RowKit.Hid (Outs w1 wr 24 ov vs (oaRowsK n (x * n + y)))) (fun _ yv _ => n - (intOf yv).toNat)
      case atStart => exact ⟨0, vs, rfl, by omega, HO⟩
      clear HO
      case round =>
        obtain ⟨y, vs, rfl, hy, ho⟩ := hrel
        by_cases hyn : y < n
        · obtain ⟨w2, hw2⟩ : ∃ w2, w2 = wr := ⟨_, rfl⟩
          subst hw2
          have HLIT := Lib.hid (World.ownsRow_lit (base := w2.heap.size) (e := 3) (size := 1) w2 #[.int .i64 (x : Int)] 1 (Nat.le_refl _) (by decide) (by simp))
          have HO := Lib.hid ho.out
          clear ho
          go_wp2_with fail
          go_loopw [8, 26] (fun rv mv wr => ∃ (m : Nat), mv = .int .i64 m ∧ m ≤ n ∧ wr.ownsRow w2.heap.size 3 1 rv (m + 1) ((oaRowK n x y m).map (Value.int .i64)) ∧ RowKit.Hid (Below w2.heap.size w2 wr)) (fun _ mv _ => n - (intOf mv).toNat)
          case atStart => exact ⟨0, rfl, by omega, HLIT.out, Lib.hid ((Below.refl _ _).alloc (Nat.le_refl _) _)⟩
          clear HLIT
          case round =>
            obtain ⟨m, rfl, hm, hr, hbr⟩ := hrel
            have hsz := hbr.out.size
            by_cases hmn : m < n
            · have hmx : m * x ≤ 49 := Nat.mul_le_mul (show m ≤ 7 by omega) (show x ≤ 7 by omega)
              have hmx1 : (m : Int) * (x : Int) ≤ 49 := by exact_mod_cast hmx
              have hmx0 : (0 : Int) ≤ (m : Int) * (x : Int) := by exact_mod_cast Nat.zero_le (m * x)
              have HM := Lib.hid (show ((oaRowK n x y m).map (Value.int .i64)) ++ [.int .i64 (((m : Int) * (x : Int) + (y : Int)) % (n : Int))] = (oaRowK n x y (m + 1)).map (Value.int .i64) by
                rw [oaRowK_succ]; simp)
              have HBR := Lib.hid hbr.out
              have HR := Lib.hid hr
              clear hbr hr hmx
              go_wp2_with (at_builtin; refine wpList_push _ rfl _ _ 24 rfl w2.heap.size 3 i3 (.int .i64 0) 1 8 Tryd.underlying24 hi3 hz31 hz32 hz33 rfl (by decide) _ _ _ rfl (HR.out.alloc _) ⟨wr.heap.size, 0, none⟩ 1 [.int .i64 (((m : Int) * (x : Int) + (y : Int)) % (n : Int))] rfl rfl (cell_one_new _ _ _) (one1 _ _) (by unfold maxLen; omega) (by omega) (by simp; omega) ?_)
              intro g7 cap w7 ho7 hg7
              have hq7 := (HBR.out.alloc hsz (.cells #[.int .i64 (((m : Int) * (x : Int) + (y : Int)) % (n : Int))] 3)).grown hg7 (by simp; omega) (fun k hk => (HR.out.lt k hk).1)
              rw [HM.out] at ho7
              have HO7 := Lib.hid ho7
              have HQ7 := Lib.hid hq7
              clear ho7 hg7 hq7 HR HBR
              go_wp2_with fail
              go_roundw
              case rel => exact ⟨m + 1, by go_num, by omega, HO7.out, HQ7⟩
              case measure => simp [intOf]; omega
            · obtain rfl : m = n := by omega
              obtain ⟨ro, rc, rfl⟩ := owns_shape hr
              have HNC := Lib.hid (own_cap hr)
              have HLEN := Lib.hid (show (oaRow m x y).length = m + 1 from oaRowK_len m x y m)
              have HRI := Lib.hid (show IntsAt .i64 wr ro (oaRow m x y) from IntsAt.of_owns hr)
              have HRO := Lib.hid (own_off hr (ov := u5) (fun b hb => (HO.out.own.lt b hb).2))
              have HO2 := Lib.hid (HO.out.keep hbr.out)
              have hs1 := HO2.out.below.size
              have HRL := Lib.hid (oaRowsK_len m (x * m + y))
              have hxy : x * m + y ≤ 49 := by
                have := Nat.mul_le_mul (show x + 1 ≤ 7 by omega) (show m ≤ 7 by omega)
                have e := Nat.add_mul x 1 m
                omega
              have hown := HO2.out.own
              rw [HRL.out] at hown
              have HOW := Lib.hid hown
              have HAT := Lib.hid (oa_at (q := m) (x := x) hyn)
              clear hr hbr HO hown
              go_wp2_with (at_builtin; refine wpList_push2 _ rfl _ _ 22 rfl w1.heap.size 24 i27 (.slice none 0 0) 1 24 Tryd.underlying22 hi27 hz271 hz272 hz273 rfl (by decide) _ _ _ rfl (HOW.out.alloc _) ⟨wr.heap.size, 0, none⟩ 1 [.slice ro (m + 1) rc] rfl rfl (cell_one_new _ _ _) (by intro u hu; simp at hu; subst hu; rfl) (by unfold maxLen; omega) (by omega) (by simp; omega) ?_)
              intro g7 cap w7 ho7 hg7 hw7
              have HO8 := Lib.hid (HO2.out.push (r := oaRow m x y) HLEN.out HRI.out (by unfold maxLen; omega) HNC.out.2 HNC.out.1 HRO.out (by rw [HRL.out]) ho7 hg7 hw7)
              have HRS := Lib.hid (show oaRowsK m (x * m + y) ++ [oaRow m x y] = oaRowsK m (x * m + (y + 1)) by
                rw [← Nat.add_assoc, oaRowsK_succ, HAT.out.1, HAT.out.2])
              rw [HRS.out] at HO8
              clear ho7 hg7 hw7
              go_wp2_with fail
              go_roundw
              case rel => exact ⟨y + 1, _, by go_num, by omega, HO8⟩
              case measure => simp [intOf]; omega
        · obtain rfl : y = n := by omega
          have HO2 := Lib.hid (show Outs w1 wr 24 u5 vs (oaRowsK y ((x + 1) * y)) from by rw [Nat.add_mul, Nat.one_mul]; exact ho.out)
          clear ho
          go_wp2_with fail
          go_roundw
          case rel => exact ⟨x + 1, vs, by go_num, by omega, HO2⟩
          case measure => simp [intOf]; omega
    · obtain rfl : x = n := by omega
      obtain ⟨ao, cap, rfl⟩ := ho.out.shape
      have hrl := oaRowsK_len x (x * x)
      have HRA := Lib.hid ho.out.rowsAt
      have HCP := Lib.hid (own_cap ho.out.own).1
      have HB2 := Lib.hid (HB1.out.trans (ho.out.below.mono HB1.out.size))
      have HRL := Lib.hid hrl
      rw [hrl] at HCP ⊢
      clear ho hrl
      go_wp2_with fail
      go_ret2
      exact ⟨.inr ⟨HQ.out, x, ao, cap, rfl, rfl, HRA.out, HCP.out⟩, HB2.out⟩
end Go.Proofs.YtmcbplklopejlaaDoor
