/- table.Holes, meet, Clash. No conditions. -/
import Derived.Test.YtpmfpegjkfnnkaaTable3
import Derived.Test.YtpmfpegjkfnnkaaLists
import Derived.OwnWalk
namespace Go.Proofs.Ytpmfpegjkfnnkaa
open Go.RowKit Go.Mine Go.Mine.Table

theorem info3 : (Try.prog.info? 3).map (fun i => (i.zero, i.size, i.bytes)) = some (some (.int .i64 0), 1, 8) := by kernel_rfl
/-- The tests that none fits, of the first k. -/
def holesL (rs : List Rl) : Nat → List Int
  | 0 => []
  | k + 1 => holesL rs k ++ (if rs.any (fun r => fits r.when k) = true then [] else [(k : Int)])
theorem holesL_len (rs : List Rl) : ∀ k, (holesL rs k).length ≤ k
  | 0 => by simp [holesL]
  | k + 1 => by
    have := holesL_len rs k
    rw [holesL, List.length_append]
    split <;> simp <;> omega
theorem holesL_mem (rs : List Rl) (x : Int) : ∀ k, x ∈ holesL rs k ↔ ∃ t : Nat, t < k ∧ x = t ∧ rs.any (fun r => fits r.when t) = false
  | 0 => by simp [holesL]
  | k + 1 => by
    rw [holesL, List.mem_append, holesL_mem rs x k]
    constructor
    · rintro (⟨t, h1, h2, h3⟩ | h)
      · exact ⟨t, by omega, h2, h3⟩
      · by_cases hc : rs.any (fun r => fits r.when k) = true
        · rw [if_pos hc] at h; cases h
        · rw [if_neg hc] at h; exact ⟨k, by omega, by simpa using h, by simpa using hc⟩
    · rintro ⟨t, h1, h2, h3⟩
      by_cases e : t = k
      · subst e; right; rw [if_neg (by rw [h3]; simp)]; simpa using h2
      · exact .inl ⟨t, by omega, h2, h3⟩

theorem holes_fits (r : Rl) (t : Nat) (ht : t < 64) (hl6 : r.when.length ≤ 6) (pt : Addr) (w : World) (h1 : w.cell? pt = some (.int .i64 t)) (hx : IntsAt .i64 w r.sa r.when) :
    Calls Try.prog 10 #[rv r, .pointer (some pt)] w fun e w' => e = .returned (.bool (fits r.when t)) ∧ Below w.heap.size w w' := by
  have hba : Below w.heap.size w (w.alloc (.cells #[.slice r.sa r.when.length r.cap, .int .i64 r.to] 31)) := (Below.refl _ _).alloc (Nat.le_refl _) _
  have H := Lib.hid (fits_any r t ht hl6 _ (hx.below (Nat.le_refl _) hba))
  have h2 : (w.alloc (.cells #[.slice r.sa r.when.length r.cap, .int .i64 r.to] 31)).cell? pt = some (.int .i64 t) := (hba.cell (World.block_lt_of_cell? w _ h1)).trans h1
  have HBA := Lib.hid hba
  unfold rv
  clear hx hba
  go_enter Try.func10, Try.ntmps10
  go_wp2_with fail
  refine H.out.mono ?_
  rintro e w' ⟨rfl, hb⟩
  have HB := Lib.hid (HBA.out.trans (hb.mono HBA.out.size))
  clear hb h2
  go_wp2_with fail
  go_ret
  exact ⟨rfl, HB.out⟩
theorem entersH (args : Array Value) (w : World) : Sem.run Try.prog (callFunc 10 args) w = .ok (.enter 10 args) w := by kernel_rfl

/-- What Holes tells. -/
def HolesPost (n : Int) (rs : List Rl) (B : Nat) (e : Ending) (w' : World) : Prop :=
  (¬ tok n (rs.map Rl.when) ∧ e = .returned (.tuple #[.slice none 0 0, .iface 42 (.int .i64 (tfault n (rs.map Rl.when)))])) ∨
  (tok n (rs.map Rl.when) ∧ ∃ v, e = .returned (.tuple #[v, .nilIface]) ∧ w'.ownsRow B 3 1 v (holesL rs (2 ^ n.toNat)).length ((holesL rs (2 ^ n.toNat)).map (Value.int .i64)))

set_option maxHeartbeats 2000000 in
set_option maxRecDepth 100000 in
theorem holes_any (n : Int) (rs : List Rl) (lo : Option Addr) (lc : Nat) (W : World) (hx : RulesAt W lo rs) (hl : rs.length ≤ maxLen) :
    Calls Try.prog 4 #[.int .i64 n, .slice lo rs.length lc] W fun e w' => HolesPost n rs W.heap.size e w' ∧ Below W.heap.size W w' := by
  obtain ⟨i0, hi0, hz0, hz1, hz2⟩ := info_parts info3
  have HC := Lib.hid (tcheck_any n rs lo lc W hx hl)
  have HX := Lib.hid (show ∀ w, Below W.heap.size W w → RulesAt w lo rs from fun w hb => hx.below (Nat.le_refl _) hb)
  have HL := Lib.hid hl
  clear hx hl
  go_enter Try.func4, Try.ntmps4
  go_wp2_with fail
  refine HC.out.mono ?_
  clear HC
  rintro e w2 ⟨hp, hb2⟩
  have HB2 := Lib.hid hb2
  clear hb2
  rcases hp with ⟨hok, rfl⟩ | ⟨hno, rfl⟩
  · obtain ⟨m, rfl, hm1, hm6, hr12, hall⟩ := id hok
    have HOK := Lib.hid hok
    have HALL := Lib.hid hall
    have hp := pow_wrap m hm6
    have hp64 := pow_le hm6
    obtain ⟨B, hB⟩ : ∃ B, B = 2 ^ m := ⟨_, rfl⟩
    rw [← hB] at hp hp64
    have HBB := Lib.hid (show (2 ^ (m : Int).toNat : Nat) = B by rw [Int.toNat_natCast, hB])
    clear hB hok hall
    go_wp2_with fail
    rw [hp]
    clear hp
    go_loopw [7, 17] (fun v kv wr => ∃ k : Nat, kv = .int .i64 k ∧ k ≤ B ∧ wr.ownsRow W.heap.size 3 1 v (holesL rs k).length ((holesL rs k).map (Value.int .i64)) ∧ Below W.heap.size W wr) (fun _ kv _ => B - (intOf kv).toNat)
    case atStart => exact ⟨0, rfl, by omega, World.ownsRow_nil _ _ _ _, HB2.out⟩
    case round =>
      obtain ⟨k, rfl, hk, ho, hb⟩ := hrel
      have hkl := holesL_len rs k
      by_cases hlt : k < B
      · have hsz := hb.size
        have hba : Below wr.heap.size wr (wr.alloc (.cells #[.int .i64 k] 3)) := (Below.refl _ _).alloc (Nat.le_refl _) _
        have hx2 := (HX.out wr hb).below (Nat.le_refl _) hba
        have hg : (wr.alloc (.cells #[.int .i64 k] 3)).cell? ⟨wr.heap.size, 0, none⟩ = some (.int .i64 k) := by simp [go_sem]
        have HG := Lib.hid (ctnR_any rs lo lc _ hx2 HL.out 10 #[.pointer (some ⟨wr.heap.size, 0, none⟩)] (fun r => fits r.when k) (fun v w => entersH _ w)
          (fun r hr w hb => holes_fits r k (by omega) (by have := (rule_at hx2 HALL.out hr).1; omega) ⟨wr.heap.size, 0, none⟩ w ((hb.cell (World.block_lt_of_cell? _ _ hg)).trans hg) ((rule_at hx2 HALL.out hr).2.2.below (Nat.le_refl _) hb)))
        have HG2 := Lib.hid hg
        have HO1 := Lib.hid (ho.alloc (.cells #[.int .i64 k] 3))
        have HB1 := Lib.hid (hb.alloc hsz (.cells #[.int .i64 k] 3))
        have HSU := Lib.hid (show holesL rs (k + 1) = holesL rs k ++ (if rs.any (fun r => fits r.when k) = true then [] else [(k : Int)]) from rfl)
        clear ho hb hba hx2 hg
        go_wp2_with fail
        refine HG.out.mono ?_
        clear HG
        rintro e w3 ⟨rfl, hbq⟩
        have HO3 := Lib.hid (owns_below HO1.out hbq)
        have hb3 := HB1.out.trans (hbq.mono HB1.out.size)
        have hs3 := hb3.size
        have HB3 := Lib.hid hb3
        have hc3 : w3.cell? ⟨wr.heap.size, 0, none⟩ = some (.int .i64 k) := (hbq.cell (World.block_lt_of_cell? _ _ HG2.out)).trans HG2.out
        clear hbq hb3 HO1 HB1 HG2
        cases hany : rs.any (fun r => fits r.when k) with
        | true =>
          have HE := Lib.hid (show holesL rs (k + 1) = holesL rs k by rw [HSU.out, hany]; simp)
          clear hany HSU
          go_wp2_with fail
          go_roundw
          case rel => exact ⟨k + 1, by go_num, by omega, by rw [HE.out]; exact HO3.out, HB3.out⟩
          case measure => simp [intOf]; omega
        | false =>
          have HE := Lib.hid (show holesL rs (k + 1) = holesL rs k ++ [(k : Int)] by rw [HSU.out, hany]; simp)
          have HEM := Lib.hid (show (holesL rs k).map (Value.int .i64) ++ [.int .i64 k] = (holesL rs (k + 1)).map (Value.int .i64) by rw [HE.out]; simp)
          have HEL := Lib.hid (show (holesL rs k).length + 1 = (holesL rs (k + 1)).length by rw [HE.out]; simp)
          clear hany HSU
          go_wp2_with (at_builtin; refine wpList_push _ rfl _ _ 23 rfl W.heap.size 3 i0 (.int .i64 0) 1 8 Try.underlying23 hi0 hz0 hz1 hz2 rfl (by decide) _ _ _ rfl (HO3.out.alloc _) ⟨w3.heap.size, 0, none⟩ 1 [.int .i64 k] rfl rfl (cell_one_new _ _ _) (one1 _ _) (by unfold maxLen; omega) (by omega) (by simp; omega) ?_)
          intro g cap w7 ho7 hg7
          have hb7 := (HB3.out.alloc hs3 (.cells #[.int .i64 k] 3)).grown hg7 (by simp; omega) (fun k hk => (HO3.out.lt k hk).1)
          rw [HEM.out, HEL.out] at ho7
          have HO7 := Lib.hid ho7
          have HB7 := Lib.hid hb7
          have hel := HEL.out
          clear ho7 hb7 hg7
          go_wp2_with fail
          go_roundw
          case rel => exact ⟨k + 1, by go_num, by omega, by rw [← HEL.out] at HO7 ⊢; exact HO7.out, HB7.out⟩
          case measure => simp [intOf]; omega
      · obtain rfl : k = B := by omega
        have HO := Lib.hid ho
        obtain ⟨ao, ac, rfl⟩ := owns_shape ho
        clear ho
        go_wp2_with fail
        go_ret2
        exact ⟨.inr ⟨HOK.out, _, rfl, by rw [HBB.out]; exact HO.out⟩, hb⟩
  · have HNO := Lib.hid hno
    clear hno
    go_wp2_with fail
    go_ret2
    exact ⟨.inl ⟨HNO.out, rfl⟩, HB2.out⟩
end Go.Proofs.Ytpmfpegjkfnnkaa
