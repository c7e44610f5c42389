/- Contracts of the library's functions at this program: each one application of what the kit has proved. No conditions of ours. -/
import Derived.Shelf.Small.Bits
import Derived.Shelf.Strconv.Itoa0
import Derived.Shelf.Sort.Plain
import Derived.Ground.Names2Prog
import Derived.Shelf.Slices.CompactI
import Derived.Shelf.Slices.SearchI
import Derived.Shelf.Slices.Cells
import Derived.Shelf.Slices.In.SortNone
import Derived.Ground.SlgnProg
import Derived.Shelf.SlicesE.Compact
import Derived.Ground.SlgfProg
import Derived.Shelf.SlicesE.IndexFunc
import Derived.Shelf.SlicesE.DeleteFunc
import Derived.Test.YtlmhdklleenjbaaDoorProg
namespace Go.Proofs
open Go.Shelf
def Tryd.lays189_ren : Go.Shelf.Ren := ⟨fun | 189 => 12 | 125 => 17 | 257 => 16 | 128 => 28 | 129 => 29 | 294 => 19 | 295 => 20 | 296 => 21 | 297 => 22 | 298 => 23 | 299 => 24 | 216 => 25 | 300 => 26 | 301 => 27 | 328 => 34 | 329 => 35 | 330 => 36 | 331 => 37 | 332 => 38 | 215 => 39 | 343 => 43 | n => n, fun | 28 => 23 | 3 => 3 | 46 => 45 | 0 => 0 | 51 => 58 | 53 => 60 | 4 => 4 | 183 => 50 | 182 => 49 | 131 => 55 | 5 => 5 | 9 => 9 | 218 => 74 | 222 => 78 | 228 => 94 | 229 => 95 | n => n, fun | n => n⟩
theorem Tryd.lays189 : Go.Proofs.Lays.n189 Tryd.prog Tryd.lays189_ren := {
  mixed := by kernel_rfl
  f125 := Tryd.func17.trans (congrArg some (by kernel_rfl))
  f128 := Tryd.func28.trans (congrArg some (by kernel_rfl))
  f129 := Tryd.func29.trans (congrArg some (by kernel_rfl))
  f189 := Tryd.func12.trans (congrArg some (by kernel_rfl))
  f215 := Tryd.func39.trans (congrArg some (by kernel_rfl))
  f216 := Tryd.func25.trans (congrArg some (by kernel_rfl))
  f257 := Tryd.func16.trans (congrArg some (by kernel_rfl))
  f294 := Tryd.func19.trans (congrArg some (by kernel_rfl))
  f295 := Tryd.func20.trans (congrArg some (by kernel_rfl))
  f296 := Tryd.func21.trans (congrArg some (by kernel_rfl))
  f297 := Tryd.func22.trans (congrArg some (by kernel_rfl))
  f298 := Tryd.func23.trans (congrArg some (by kernel_rfl))
  f299 := Tryd.func24.trans (congrArg some (by kernel_rfl))
  f300 := Tryd.func26.trans (congrArg some (by kernel_rfl))
  f301 := Tryd.func27.trans (congrArg some (by kernel_rfl))
  f328 := Tryd.func34.trans (congrArg some (by kernel_rfl))
  f329 := Tryd.func35.trans (congrArg some (by kernel_rfl))
  f330 := Tryd.func36.trans (congrArg some (by kernel_rfl))
  f331 := Tryd.func37.trans (congrArg some (by kernel_rfl))
  f332 := Tryd.func38.trans (congrArg some (by kernel_rfl))
  f343 := Tryd.func43.trans (congrArg some (by kernel_rfl))
  t0 := Tryd.underlying0
  a0 := Tryd.isAgg0
  z0 := Tryd.sizeOf0
  v0 := Tryd.zeroValue0
  t3 := Tryd.underlying3
  a3 := Tryd.isAgg3
  z3 := Tryd.sizeOf3
  v3 := Tryd.zeroValue3
  t4 := Tryd.underlying4
  a4 := Tryd.isAgg4
  z4 := Tryd.sizeOf4
  v4 := Tryd.zeroValue4
  t5 := Tryd.underlying5
  a5 := Tryd.isAgg5
  z5 := Tryd.sizeOf5
  v5 := Tryd.zeroValue5
  t9 := Tryd.underlying9
  a9 := Tryd.isAgg9
  z9 := Tryd.sizeOf9
  v9 := Tryd.zeroValue9
  t28 := Tryd.underlying23
  a28 := Tryd.isAgg23
  z28 := Tryd.sizeOf23
  v28 := Tryd.zeroValue23
  t46 := Tryd.underlying45
  a46 := Tryd.isAgg45
  z46 := Tryd.sizeOf45
  v46 := Tryd.zeroValue45
  t51 := Tryd.underlying58
  a51 := Tryd.isAgg58
  z51 := Tryd.sizeOf58
  v51 := Tryd.zeroValue58
  t53 := Tryd.underlying60
  a53 := Tryd.isAgg60
  z53 := Tryd.sizeOf60
  v53 := Tryd.zeroValue60
  t131 := Tryd.underlying55
  a131 := Tryd.isAgg55
  z131 := Tryd.sizeOf55
  v131 := Tryd.zeroValue55
  t182 := Tryd.underlying49
  a182 := Tryd.isAgg49
  z182 := Tryd.sizeOf49
  v182 := Tryd.zeroValue49
  t183 := Tryd.underlying50
  a183 := Tryd.isAgg50
  z183 := Tryd.sizeOf50
  v183 := Tryd.zeroValue50
  t218 := Tryd.underlying74
  a218 := Tryd.isAgg74
  z218 := Tryd.sizeOf74
  v218 := Tryd.zeroValue74
  t222 := Tryd.underlying78
  a222 := Tryd.isAgg78
  z222 := Tryd.sizeOf78
  v222 := Tryd.zeroValue78
  t228 := Tryd.underlying94
  a228 := Tryd.isAgg94
  z228 := Tryd.sizeOf94
  v228 := Tryd.zeroValue94
  t229 := Tryd.underlying95
  a229 := Tryd.isAgg95
  z229 := Tryd.sizeOf95
  v229 := Tryd.zeroValue95 }
open Go.Sort Go.RowKit in
theorem Tryd.slices_Sort_int (blk off cap : Nat) (zs : List Int) (w : World) (hH : Holds (Value.int .i64) w blk off zs.toArray) (hblk : blk < w.heap.size) (hsz : zs.length < 4611686018427387904) :
    Calls Tryd.prog 12 #[.slice (some ⟨blk, off, none⟩) zs.length cap] w fun e w' =>
      e = .returned (.tuple #[]) ∧ ∃ n os, w' = grow (putRow (Value.int .i64) (Sort.ahead w n) blk off (zs.mergeSort fun x y => decide (x ≤ y)).toArray) os := Any.slices_Sort_int Tryd.lays189 blk off cap zs w hH hblk hsz
def Tryd.laysNm220_ren : Go.Shelf.Ren := ⟨fun | 20 => 13 | n => n, fun | 22 => 23 | 3 => 3 | 4 => 4 | 0 => 0 | n => n, fun | n => n⟩
theorem Tryd.laysNm220 : Go.Proofs.Lays2.n20 Tryd.prog Tryd.laysNm220_ren := {
  mixed := by kernel_rfl
  f20 := Tryd.func13.trans (congrArg some (by kernel_rfl))
  t0 := Tryd.underlying0
  a0 := Tryd.isAgg0
  z0 := Tryd.sizeOf0
  v0 := Tryd.zeroValue0
  t3 := Tryd.underlying3
  a3 := Tryd.isAgg3
  z3 := Tryd.sizeOf3
  v3 := Tryd.zeroValue3
  t4 := Tryd.underlying4
  a4 := Tryd.isAgg4
  z4 := Tryd.sizeOf4
  v4 := Tryd.zeroValue4
  t22 := Tryd.underlying23
  a22 := Tryd.isAgg23
  z22 := Tryd.sizeOf23
  v22 := Tryd.zeroValue23
  i3 := by kernel_rfl }
open Go.RowKit Go.Lib Go.Sort in
theorem Tryd.slices_Compact_int (blk off cap : Nat) (zs : List Int) (w : World) (hH : Holds (Value.int .i64) w blk off zs.toArray) (hsz : zs.length ≤ 9223372036854775807) (hcap : zs.length ≤ cap) :
    Calls Tryd.prog 13 #[.slice (some ⟨blk, off, none⟩) zs.length cap] w fun e w' => e = .returned (.slice (some ⟨blk, off, none⟩) (Lib.compact zs).length cap) ∧ ∃ q, w' = putRow (Value.int .i64) (Sort.ahead w q) blk off (Lib.compact zs ++ List.replicate (zs.length - (Lib.compact zs).length) 0).toArray := Any.slices_Compact_int Tryd.laysNm220 blk off cap zs w hH hsz hcap
def Tryd.laysSlH10_f10_ren : Go.Shelf.Ren := ⟨fun | 10 => 10 | 6 => 15 | n => n, fun | 22 => 23 | 23 => 3 | 25 => 37 | 3 => 3 | 4 => 4 | 0 => 0 | n => n, fun | n => n⟩
theorem Tryd.laysSlH10_f10 : Go.Proofs.SlLaysH.n10 Tryd.prog Tryd.laysSlH10_f10_ren := {
  mixed := by kernel_rfl
  f6 := ⟨Tryd.f15.name, by decide, Tryd.func15.trans (congrArg some (by kernel_rfl))⟩
  f10 := ⟨Tryd.f10.name, by decide, Tryd.func10.trans (congrArg some (by kernel_rfl))⟩
  t0 := Tryd.underlying0
  a0 := Tryd.isAgg0
  z0 := Tryd.sizeOf0
  v0 := Tryd.zeroValue0
  t3 := Tryd.underlying3
  a3 := Tryd.isAgg3
  z3 := Tryd.sizeOf3
  v3 := Tryd.zeroValue3
  t4 := Tryd.underlying4
  a4 := Tryd.isAgg4
  z4 := Tryd.sizeOf4
  v4 := Tryd.zeroValue4
  t22 := Tryd.underlying23
  a22 := Tryd.isAgg23
  z22 := Tryd.sizeOf23
  v22 := Tryd.zeroValue23
  a23 := Tryd.isAgg3
  z23 := Tryd.sizeOf3
  t25 := Tryd.underlying37
  a25 := Tryd.isAgg37
  z25 := Tryd.sizeOf37
  v25 := Tryd.zeroValue37 }
open Go.RowKit Go.Lib Go.Sort in
theorem Tryd.slices_DeleteFunc {α : Type} [Inhabited α] (enc : α → Value) (hO : OneCell enc) (p : α → Bool) (g : Nat) (lb : Array Value) (eg : ∀ args w, (callFunc g args).run Tryd.prog w = .ok (.enter g args) w) (zr : α) (v23 : ∀ w, (zeroValue 3).run Tryd.prog w = .ok (enc zr) w) (blk off cap : Nat) (d : Array α) (w : World) (hp : PredAt Tryd.prog g lb enc p w) (hpo : PredOver Tryd.prog g lb enc p blk off d.size w) (hH : Holds enc w blk off d) (hsz : d.size ≤ 9223372036854775807) (hcap : d.size ≤ cap) :
    Calls Tryd.prog 10 #[.slice (some ⟨blk, off, none⟩) d.size cap, .func (.func g) #[] lb] w fun e w' => e = .returned (.slice (some ⟨blk, off, none⟩) (d.toList.filter fun x => !p x).length cap) ∧ ∃ q, w' = putRow enc (Sort.ahead w q) blk off ((d.toList.filter fun x => !p x) ++ List.replicate (d.size - (d.toList.filter fun x => !p x).length) zr).toArray := AnyE.slices_DeleteFunc Tryd.laysSlH10_f10 enc hO p g lb eg zr v23 blk off cap d w hp hpo hH hsz hcap
end Go.Proofs
