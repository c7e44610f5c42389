/- Scripts: what each line does, plainly: numbers, lists and bytes, no program. -/
import Derived.Lib.ItoaNum
import Derived.Lib.AtoiAll
import Derived.Lib.Join
namespace Go.Mine.Desk
open Go.Lib

abbrev Bytes := List UInt8
/-- Cut at a byte. -/
def cuts (c : UInt8) : Bytes → List Bytes
  | [] => [[]]
  | b :: l => if b = c then [] :: cuts c l else match cuts c l with
    | [] => [[b]]
    | x :: r => (b :: x) :: r
theorem cuts_ne (c : UInt8) : ∀ s, cuts c s ≠ []
  | [] => by simp [cuts]
  | b :: l => by
    rw [cuts]
    split
    · simp
    · split <;> simp
theorem cuts_append (c : UInt8) (t : Bytes) : ∀ s, cuts c (s ++ c :: t) = cuts c s ++ cuts c t
  | [] => by simp [cuts]
  | b :: l => by
    have ih := cuts_append c t l
    rw [List.cons_append, cuts, ih, cuts]
    split
    · simp
    · have hne := cuts_ne c l
      cases h : cuts c l with
      | nil => exact absurd h hne
      | cons x r => simp
theorem cuts_none (c : UInt8) : ∀ s, c ∉ s → cuts c s = [s]
  | [], _ => rfl
  | b :: l, h => by
    rw [cuts, if_neg (fun e => h (by rw [e]; exact List.mem_cons_self)), cuts_none c l (fun hm => h (List.mem_cons_of_mem _ hm))]
theorem cuts_one {c : UInt8} : ∀ {s}, (cuts c s).length = 1 → c ∉ s
  | [], _ => by simp
  | b :: l, h => by
    rw [cuts] at h
    split at h
    · have := cuts_ne c l
      have := List.length_pos_iff.2 this
      rw [List.length_cons] at h
      omega
    · rename_i hb
      have hl : (cuts c l).length = 1 := by
        have hne := cuts_ne c l
        cases hc : cuts c l with
        | nil => exact absurd hc hne
        | cons x r => rw [hc] at h; simpa using h
      have := cuts_one hl
      rw [List.mem_cons]
      rintro (e | e)
      · exact hb e.symm
      · exact this e
theorem cuts_length (c : UInt8) : ∀ s : Bytes, (cuts c s).length ≤ s.length + 1
  | [] => by simp [cuts]
  | b :: l => by
    have ih := cuts_length c l
    rw [cuts]
    split
    · simp; omega
    · have hne := cuts_ne c l
      cases h : cuts c l with
      | nil => exact absurd h hne
      | cons x r => rw [h] at ih; simp at ih ⊢; omega
theorem cuts_part (c : UInt8) : ∀ (s : Bytes), ∀ p ∈ cuts c s, p.length ≤ s.length
  | [], p, h => by simp [cuts] at h; subst h; simp
  | b :: l, p, h => by
    have ih := cuts_part c l
    rw [cuts] at h
    split at h
    · rcases List.mem_cons.1 h with rfl | h
      · simp
      · have := ih p h; simp; omega
    · have hne := cuts_ne c l
      cases hc : cuts c l with
      | nil => exact absurd hc hne
      | cons x r =>
        rw [hc] at h
        rcases List.mem_cons.1 h with rfl | h
        · have := ih x (by rw [hc]; exact List.mem_cons_self); simp; omega
        · have := ih p (by rw [hc]; exact List.mem_cons_of_mem _ h); simp; omega

/-- A number's own text, or none. -/
def numV (s : Bytes) : Option Int := match atoiAll s with
  | .ok v => if itoa v = s then some v else none
  | _ => none
/-- A word that is a number of a line. -/
def wordV (s : Bytes) : Option Int := match numV s with
  | some v => if v < -1073741824 ∨ 1073741824 < v then none else some v
  | none => none
/-- A tape's text; the tape of a text. -/
def ttext (l : List Int) : Bytes := join (l.map itoa) [46]
def tapeOk (l : List Int) : Bool := l.all fun x => decide (0 ≤ x) && decide (x ≤ 1000)
def atoiEach : List Bytes → Option (List Int)
  | [] => some []
  | p :: r => match atoiAll p with
    | .ok v => (atoiEach r).map (v :: ·)
    | _ => none
def tapeV (s : Bytes) : Option (List Int) := match (if s = [] then some [] else atoiEach (cuts 46 s)) with
  | some l => if tapeOk l = true ∧ ttext l = s then some l else none
  | none => none

/-- A desk's generator. -/
inductive G | int (a b : Int) | many (n a b : Int)
def near (x : Int) : Prop := -1073741824 ≤ x ∧ x ≤ 1073741824
def G.right : G → Prop
  | .int a b => near a ∧ near b ∧ a ≤ b ∧ b - a ≤ 1000
  | .many n a b => 0 ≤ n ∧ n ≤ 5 ∧ near a ∧ near b ∧ a ≤ b ∧ b - a ≤ 1000
def G.near : G → Prop
  | .int a b => Desk.near a ∧ Desk.near b
  | .many n a b => Desk.near n ∧ Desk.near a ∧ Desk.near b
instance (x : Int) : Decidable (near x) := by unfold near; infer_instance
instance (g : G) : Decidable g.right := by cases g <;> (unfold G.right; infer_instance)

/-- How many tapes, one more than may be if there are more. -/
def capped (n : Int) : Int := min n 1048577
def cntN (c : Int) : Nat → Int × Int
  | 0 => (1, 1)
  | k + 1 => (capped ((cntN c k).1 + capped ((cntN c k).2 * c)), capped ((cntN c k).2 * c))
def cnt : G → Int
  | .int a b => b - a + 1
  | .many n a b => (cntN (b - a + 1) n.toNat).1

inductive V | num (z : Int) | list (zs : List Int)
def vtext : V → Bytes
  | .num z => itoa z
  | .list zs => 40 :: (join (zs.map itoa) [32] ++ [41])
/-- Replay. -/
def playN (a m : Int) : Nat → List Int → Except Int (List Int × List Int)
  | 0, r => .ok ([], r)
  | _ + 1, [] => .error 5
  | k + 1, x :: r => if x < 0 ∨ m < x then .error 1 else match playN a m k r with
    | .error e => .error e
    | .ok (zs, r') => .ok ((a + x) :: zs, r')
def replay : G → List Int → Except Int V
  | .int a b, l => match playN a (b - a) 1 l with
    | .error e => .error e
    | .ok (zs, r) => if r = [] then .ok (.num (zs.getD 0 0)) else .error 3
  | .many _ _ _, [] => .error 5
  | .many n a b, k :: l => if k < 0 ∨ n < k then .error 1 else match playN a (b - a) k.toNat l with
    | .error e => .error e
    | .ok (zs, r) => if r = [] then .ok (.list zs) else .error 3
def clamp (m x : Int) : Int := max 0 (min x m)
/-- Mend. -/
def mend : G → List Int → List Int
  | .int a b, l => [clamp (b - a) (l.getD 0 0)]
  | .many n a b, l => clamp n (l.getD 0 0) :: (List.range (clamp n (l.getD 0 0)).toNat).map fun i => clamp (b - a) (l.getD (i + 1) 0)
/-- Shorter, or as long and ahead. -/
def lexLt : List Int → List Int → Bool
  | x :: a, y :: b => if x = y then lexLt a b else decide (x < y)
  | _, _ => false
def tapeLt (a b : List Int) : Bool := if a.length = b.length then lexLt a b else decide (a.length < b.length)
def tries (l : List Int) (i : Nat) : List (List Int) := (if 0 < l.getD i 0 then [l.set i 0, l.set i (l.getD i 0 / 2), l.set i (l.getD i 0 - 1)] else []) ++ [l.eraseIdx i]
def lessAt (g : G) (l : List Int) (i : Nat) : List (List Int) := ((tries l i).map (mend g)).filter fun m => tapeLt m l
def less (g : G) (l : List Int) : List (List Int) := (List.range l.length).flatMap (lessAt g l)

def total : V → Int
  | .num z => z
  | .list zs => zs.sum
/-- Does what is made of a tape fail? -/
def bad (g : G) (n : Int) (l : List Int) : Bool := match replay g l with
  | .ok v => decide (n ≤ total v)
  | .error _ => false
/-- A tape's place. -/
def place (l : List Int) : Nat := l.length * 1002 ^ 6 + l.foldl (fun acc x => acc * 1002 + x.toNat) 0
def walkF (g : G) (n : Int) : Nat → List Int → List Int × Int
  | 0, l => (l, 0)
  | f + 1, l => match (less g l).find? (bad g n) with
    | none => (l, 0)
    | some m => ((walkF g n f m).1, (walkF g n f m).2 + 1)
def walk (g : G) (n : Int) (l : List Int) : List Int × Int := walkF g n (place l) l
end Go.Mine.Desk
