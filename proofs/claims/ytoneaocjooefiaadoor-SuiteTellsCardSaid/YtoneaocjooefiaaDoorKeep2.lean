/- An append at a step of a region that draws, whose first slice is used on; a prefix of a row that was used on. No conditions beyond sizes. -/
import Derived.Test.YtoneaocjooefiaaDoorKeep
import Derived.Test.YtoneaocjooefiaaDoorMore
namespace Go.Mine
open Go Go.RowKit

theorem step_push_keep {P : Program} (w : World) {ops : Array Oper} {o : Oper} {a : Act} {K : Act → World → Prop} {Q : Exit → Act → World → Prop} {E : Prop} (hgd : o.guard = none) (s x : Operand) (t : TypeId)
    (ho : o.op = .call { callee := .builtin .append, args := #[s, x], argTypes := #[t, t] })
    (base : Nat) (e : TypeId) (i : TypeInfo) (z : Value) (size bytes : Nat) (ht : P.underlying t = some (.slice e)) (hi : P.info? e = some i) (hz : i.zero = some z)
    (hsize : i.size = size) (hby : i.bytes = bytes) (hzs : z.cells.size = size) (hsz : 0 < size)
    (v : Value) (n : Nat) (xs : List Value) (hs : a.eval s = v) (hown : w.ownsRow base e size v n xs)
    (ad : Addr) (c : Nat) (news : List Value) (hx : a.eval x = .slice (some ad) 1 c) (hl : news.length = 1 * size) (hnews : ∀ j u, news[j]? = some u → w.cell? (ad.add j) = some u) (h1 : ∀ u ∈ news, u.oneCell' = true)
    (h63 : n + 1 ≤ maxLen) (hbytes : (n + 1) * bytes ≤ 140737488355328) (hbase : base ≤ w.heap.size) (H : Nat) (hH : w.heap.size = H)
    (h : ∀ g cap w', w'.ownsRow base e size (.slice (some ⟨g, 0, none⟩) (n + 1) cap) (n + 1) (xs ++ news) → w'.ownsRow base e size v n xs → w.grownBy w' v.ownBlock → (v.ownBlock = some g ∨ g = H) → g < w'.heap.size → K (a.put o.dst (.slice (some ⟨g, 0, none⟩) (n + 1) cap)) w') :
    if Region.wanted o (yielded ops a.tmps) = true then Oper.wp P o a w K Q else E := by
  have hw : Region.wanted o (yielded ops a.tmps) = true := by simp [Region.wanted, hgd]
  rw [if_pos hw]
  subst hsize
  subst hby
  obtain ⟨v', w', hr, h2, h3, h4, h5⟩ := run_append_own_at (P := P) w base t o.type e i z _ _ ht hi hz rfl rfl hzs hsz v n xs hown ad 1 c news hl hnews h1 h63 hbytes hbase
  have h6 := append_keeps (P := P) w base t o.type e i z ht hi hz v n xs hown ad 1 c news hl hnews h1 (by omega) h63 hbytes v' w' hr h2
  have hv : ∃ g cap, v' = .slice (some ⟨g, 0, none⟩) (n + 1) cap := by
    rcases h2.2 with ⟨_, h7⟩ | ⟨g, cap, _, h7, _⟩
    · omega
    · exact ⟨g, cap, h7⟩
  obtain ⟨g, cap, rfl⟩ := hv
  unfold Oper.wp execOp
  simp only [ho, resolve, invoke, builtin, Sem.run_bind, Sem.run_pure, Result.andThen_ok, List.map_toArray, List.map_cons, List.map_nil, hs, hx, hr]
  refine h g cap w' h2 h6 h3 ?_ (h2.lt g rfl).2
  rcases h5 with h5 | h5
  · exact .inl (by rw [← h5]; rfl)
  · exact .inr (by rw [← hH]; simpa [Value.ownBlock] using h5)

theorem owns_back {w7 w9 : World} {B : Nat} {e : TypeId} {g n cap cap' : Nat} {xs : List Value} {y : Value} (h7 : w7.ownsRow B e 1 (.slice (some ⟨g, 0, none⟩) n cap) n xs) (h7' : w7.ownsRow B e 1 (.slice (some ⟨g, 0, none⟩) (n + 1) cap') (n + 1) (xs ++ [y]))
    (h9 : w9.ownsRow B e 1 (.slice (some ⟨g, 0, none⟩) (n + 1) cap') (n + 1) (xs ++ [y])) : w9.ownsRow B e 1 (.slice (some ⟨g, 0, none⟩) n cap) n xs := by
  rcases h7.2 with ⟨h, _⟩ | ⟨g1, c1, cur1, e1, _, b1, n1, m1, s1, _⟩
  · cases h
  rcases h7'.2 with ⟨h, _⟩ | ⟨g2, c2, cur2, e2, _, b2, _, _, s2, _⟩
  · cases h
  rcases h9.2 with ⟨h, _⟩ | ⟨g3, c3, cur3, e3, l3, b3, _, _, s3, t3⟩
  · cases h
  simp only [Value.slice.injEq, Option.some.injEq, Addr.mk.injEq, true_and, and_true] at e1 e2 e3
  obtain ⟨rfl, rfl⟩ := e1
  obtain ⟨rfl, rfl⟩ := e2
  obtain ⟨rfl, rfl⟩ := e3
  rw [b1] at b2
  simp only [Option.some.injEq, Obj.cells.injEq, true_and, and_true] at b2
  subst b2
  refine ⟨h7.1, .inr ⟨g, cap, cur3, rfl, l3, b3, n1, m1, by omega, ?_⟩⟩
  have hl := h7.1
  have := congrArg (List.take (n * 1)) t3
  rw [List.take_take, Nat.min_eq_left (by omega), List.take_left' hl] at this
  exact this
end Go.Mine
