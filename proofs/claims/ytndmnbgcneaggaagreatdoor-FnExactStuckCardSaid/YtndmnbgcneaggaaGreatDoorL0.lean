/- The library's contract for strings.Split at this program: laid by the kit's tool. -/
import Derived.Shelf.Strings.Split
import Derived.Test.YtndmnbgcneaggaaGreatDoorProg
namespace Go.Proofs
open Go.Shelf
def Tryz.lays146_ren : Go.Shelf.Ren := ⟨fun | 146 => 213 | 221 => 255 | 268 => 274 | 138 => 275 | 143 => 276 | 195 => 280 | 197 => 281 | 218 => 282 | 219 => 283 | 260 => 284 | 217 => 285 | 225 => 286 | 224 => 287 | 267 => 288 | 266 => 289 | 314 => 290 | n => n, fun | 9 => 9 | 31 => 278 | 3 => 3 | 4 => 4 | 0 => 0 | 105 => 350 | 21 => 21 | 5 => 5 | 46 => 354 | 119 => 355 | 139 => 358 | 138 => 357 | 146 => 360 | 51 => 359 | n => n, fun | 1 => 0 | 3 => 1 | 4 => 2 | n => n⟩
theorem Tryz.lays146 : Go.Proofs.Lays.n146 Tryz.prog Tryz.lays146_ren := {
 mixed := by kernel_rfl
 f138 := Tryz.func275.trans (congrArg some (by kernel_rfl))
 f143 := Tryz.func276.trans (congrArg some (by kernel_rfl))
 f146 := Tryz.func213.trans (congrArg some (by kernel_rfl))
 f195 := Tryz.func280.trans (congrArg some (by kernel_rfl))
 f197 := Tryz.func281.trans (congrArg some (by kernel_rfl))
 f217 := Tryz.func285.trans (congrArg some (by kernel_rfl))
 f218 := Tryz.func282.trans (congrArg some (by kernel_rfl))
 f219 := Tryz.func283.trans (congrArg some (by kernel_rfl))
 f221 := Tryz.func255.trans (congrArg some (by kernel_rfl))
 f224 := Tryz.func287.trans (congrArg some (by kernel_rfl))
 f225 := Tryz.func286.trans (congrArg some (by kernel_rfl))
 f260 := Tryz.func284.trans (congrArg some (by kernel_rfl))
 f266 := Tryz.func289.trans (congrArg some (by kernel_rfl))
 f267 := Tryz.func288.trans (congrArg some (by kernel_rfl))
 f268 := Tryz.func274.trans (congrArg some (by kernel_rfl))
 f314 := Tryz.func290.trans (congrArg some (by kernel_rfl))
 t0 := Tryz.underlying0
 a0 := Tryz.isAgg0
 z0 := Tryz.sizeOf0
 v0 := Tryz.zeroValue0
 t3 := Tryz.underlying3
 a3 := Tryz.isAgg3
 z3 := Tryz.sizeOf3
 v3 := Tryz.zeroValue3
 t4 := Tryz.underlying4
 a4 := Tryz.isAgg4
 z4 := Tryz.sizeOf4
 v4 := Tryz.zeroValue4
 t5 := Tryz.underlying5
 a5 := Tryz.isAgg5
 z5 := Tryz.sizeOf5
 v5 := Tryz.zeroValue5
 t9 := Tryz.underlying9
 a9 := Tryz.isAgg9
 z9 := Tryz.sizeOf9
 v9 := Tryz.zeroValue9
 t21 := Tryz.underlying21
 a21 := Tryz.isAgg21
 z21 := Tryz.sizeOf21
 v21 := Tryz.zeroValue21
 t31 := Tryz.underlying278
 a31 := Tryz.isAgg278
 z31 := Tryz.sizeOf278
 v31 := Tryz.zeroValue278
 t46 := Tryz.underlying354
 a46 := Tryz.isAgg354
 z46 := Tryz.sizeOf354
 v46 := Tryz.zeroValue354
 t51 := Tryz.underlying359
 a51 := Tryz.isAgg359
 z51 := Tryz.sizeOf359
 v51 := Tryz.zeroValue359
 t105 := Tryz.underlying350
 a105 := Tryz.isAgg350
 z105 := Tryz.sizeOf350
 v105 := Tryz.zeroValue350
 t119 := Tryz.underlying355
 a119 := Tryz.isAgg355
 z119 := Tryz.sizeOf355
 t138 := Tryz.underlying357
 a138 := Tryz.isAgg357
 z138 := Tryz.sizeOf357
 v138 := Tryz.zeroValue357
 t139 := Tryz.underlying358
 a139 := Tryz.isAgg358
 z139 := Tryz.sizeOf358
 v139 := Tryz.zeroValue358
 t146 := Tryz.underlying360
 a146 := Tryz.isAgg360
 z146 := Tryz.sizeOf360
 v146 := Tryz.zeroValue360
 g1 := by kernel_rfl
 g3 := by kernel_rfl
 g4 := by kernel_rfl }
open Go.RowKit Go.Lib in
theorem Tryz.strings_Split (s sep : ByteArray) (m : Int) (w : World) (hs : s.size < 4294967281) (hm : w.cell? ⟨0, 0, none⟩ = some (.int .i64 m)) (h1 : 1 ≤ sep.size) :
  Calls Tryz.prog 213 #[.string s, .string sep] w fun e w' =>
   e = .returned (.slice (some ⟨w.heap.size, 0, none⟩) (Lib.countB s sep + 1) (Lib.countB s sep + 1)) ∧ w' = w.alloc (.cells ((Lib.splitB sep 0 (Lib.countB s sep) s).map Value.string).toArray 9) := Any.strings_Split Tryz.lays146 (by kernel_rfl) s sep m w hs hm h1
end Go.Proofs
