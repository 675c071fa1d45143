/- Where the library's functions stand in this program. -/
import Derived.Shelf.Lays
import Derived.Shelf.Lays2
import Derived.Shelf.Lays8
import Derived.Test.YtafalojjbghlhaaProg
set_option linter.unusedVariables false
set_option maxRecDepth 100000
namespace YtafalojjbghlhaaAM
open Go Go.Proofs Go.Shelf
def layS : Go.Shelf.Ren :=
{
  f := fun x =>
    match x with
    | 189 => 66
    | 125 => 88
    | 257 => 87
    | 128 => 106
    | 129 => 107
    | 294 => 97
    | 295 => 98
    | 296 => 99
    | 297 => 100
    | 298 => 101
    | 299 => 102
    | 216 => 103
    | 300 => 104
    | 301 => 105
    | 328 => 109
    | 329 => 110
    | 330 => 111
    | 331 => 112
    | 332 => 113
    | 215 => 114
    | 343 => 116
    | n => n,
  t := fun x =>
    match x with
    | 28 => 29
    | 3 => 3
    | 46 => 105
    | 0 => 0
    | 51 => 127
    | 53 => 88
    | 4 => 4
    | 183 => 121
    | 182 => 120
    | 131 => 124
    | 5 => 5
    | 9 => 9
    | 218 => 130
    | 222 => 134
    | 228 => 136
    | 229 => 117
    | n => n,
  g := fun n => n }
theorem layS_ok : Lays.n189 Try.prog layS :=
{ mixed := Eq.refl true,
  f125 := Eq.trans Try.func88 (congrArg some (Eq.refl (Body.n125 layS))),
  f128 := Eq.trans Try.func106 (congrArg some (Eq.refl (Body.n128 layS))),
  f129 := Eq.trans Try.func107 (congrArg some (Eq.refl (Body.n129 layS))),
  f189 := Eq.trans Try.func66 (congrArg some (Eq.refl (Body.n189 layS))),
  f215 := Eq.trans Try.func114 (congrArg some (Eq.refl (Body.n215 layS))),
  f216 := Eq.trans Try.func103 (congrArg some (Eq.refl (Body.n216 layS))),
  f257 := Eq.trans Try.func87 (congrArg some (Eq.refl (Body.n257 layS))),
  f294 := Eq.trans Try.func97 (congrArg some (Eq.refl (Body.n294 layS))),
  f295 := Eq.trans Try.func98 (congrArg some (Eq.refl (Body.n295 layS))),
  f296 := Eq.trans Try.func99 (congrArg some (Eq.refl (Body.n296 layS))),
  f297 := Eq.trans Try.func100 (congrArg some (Eq.refl (Body.n297 layS))),
  f298 := Eq.trans Try.func101 (congrArg some (Eq.refl (Body.n298 layS))),
  f299 := Eq.trans Try.func102 (congrArg some (Eq.refl (Body.n299 layS))),
  f300 := Eq.trans Try.func104 (congrArg some (Eq.refl (Body.n300 layS))),
  f301 := Eq.trans Try.func105 (congrArg some (Eq.refl (Body.n301 layS))),
  f328 := Eq.trans Try.func109 (congrArg some (Eq.refl (Body.n328 layS))),
  f329 := Eq.trans Try.func110 (congrArg some (Eq.refl (Body.n329 layS))),
  f330 := Eq.trans Try.func111 (congrArg some (Eq.refl (Body.n330 layS))),
  f331 := Eq.trans Try.func112 (congrArg some (Eq.refl (Body.n331 layS))),
  f332 := Eq.trans Try.func113 (congrArg some (Eq.refl (Body.n332 layS))),
  f343 := Eq.trans Try.func116 (congrArg some (Eq.refl (Body.n343 layS))),
  t0 := Try.underlying0,
  a0 := Try.isAgg0,
  z0 := Try.sizeOf0,
  v0 := Try.zeroValue0,
  t3 := Try.underlying3,
  a3 := Try.isAgg3,
  z3 := Try.sizeOf3,
  v3 := Try.zeroValue3,
  t4 := Try.underlying4,
  a4 := Try.isAgg4,
  z4 := Try.sizeOf4,
  v4 := Try.zeroValue4,
  t5 := Try.underlying5,
  a5 := Try.isAgg5,
  z5 := Try.sizeOf5,
  v5 := Try.zeroValue5,
  t9 := Try.underlying9,
  a9 := Try.isAgg9,
  z9 := Try.sizeOf9,
  v9 := Try.zeroValue9,
  t28 := Try.underlying29,
  a28 := Try.isAgg29,
  z28 := Try.sizeOf29,
  v28 := Try.zeroValue29,
  t46 := Try.underlying105,
  a46 := Try.isAgg105,
  z46 := Try.sizeOf105,
  v46 := Try.zeroValue105,
  t51 := Try.underlying127,
  a51 := Try.isAgg127,
  z51 := Try.sizeOf127,
  v51 := Try.zeroValue127,
  t53 := Try.underlying88,
  a53 := Try.isAgg88,
  z53 := Try.sizeOf88,
  v53 := Try.zeroValue88,
  t131 := Try.underlying124,
  a131 := Try.isAgg124,
  z131 := Try.sizeOf124,
  v131 := Try.zeroValue124,
  t182 := Try.underlying120,
  a182 := Try.isAgg120,
  z182 := Try.sizeOf120,
  v182 := Try.zeroValue120,
  t183 := Try.underlying121,
  a183 := Try.isAgg121,
  z183 := Try.sizeOf121,
  v183 := Try.zeroValue121,
  t218 := Try.underlying130,
  a218 := Try.isAgg130,
  z218 := Try.sizeOf130,
  v218 := Try.zeroValue130,
  t222 := Try.underlying134,
  a222 := Try.isAgg134,
  z222 := Try.sizeOf134,
  v222 := Try.zeroValue134,
  t228 := Try.underlying136,
  a228 := Try.isAgg136,
  z228 := Try.sizeOf136,
  v228 := Try.zeroValue136,
  t229 := Try.underlying117,
  a229 := Try.isAgg117,
  z229 := Try.sizeOf117,
  v229 := Try.zeroValue117 }
def layC : Go.Shelf.Ren :=
{
  f := fun x =>
    match x with
    | 20 => 67
    | n => n,
  t := fun x =>
    match x with
    | 22 => 29
    | 3 => 3
    | 4 => 4
    | 0 => 0
    | n => n,
  g := fun n => n }
theorem layC_ok : Lays2.n20 Try.prog layC :=
{ mixed := Eq.refl true,
  f20 := Eq.trans Try.func67 (congrArg some (Eq.refl (Body2.n20 layC))),
  t0 := Try.underlying0,
  a0 := Try.isAgg0,
  z0 := Try.sizeOf0,
  v0 := Try.zeroValue0,
  t3 := Try.underlying3,
  a3 := Try.isAgg3,
  z3 := Try.sizeOf3,
  v3 := Try.zeroValue3,
  t4 := Try.underlying4,
  a4 := Try.isAgg4,
  z4 := Try.sizeOf4,
  v4 := Try.zeroValue4,
  t22 := Try.underlying29,
  a22 := Try.isAgg29,
  z22 := Try.sizeOf29,
  v22 := Try.zeroValue29,
  i3 := Eq.refl (some (some (Value.int IntKind.i64 0), 1, 8)) }
def layG : Go.Shelf.Ren :=
{
  f := fun x =>
    match x with
    | 4 => 86
    | n => n,
  t := fun x =>
    match x with
    | 22 => 29
    | 25 => 3
    | 3 => 3
    | 4 => 4
    | 9 => 9
    | 20 => 20
    | 0 => 0
    | n => n,
  g := fun n => n }

theorem layG_ok : Lays8.n4 Try.prog layG :=
{ mixed := Eq.refl true,
  f4 := ⟨ "slices.Grow[[]int,int]", of_decide_eq_true (id (Eq.refl true)), Eq.trans Try.func86 (congrArg some (Eq.refl _))⟩,
  t0 := Try.underlying0,
  a0 := Try.isAgg0,
  z0 := Try.sizeOf0,
  v0 := Try.zeroValue0,
  t3 := Try.underlying3,
  a3 := Try.isAgg3,
  z3 := Try.sizeOf3,
  v3 := Try.zeroValue3,
  t4 := Try.underlying4,
  a4 := Try.isAgg4,
  z4 := Try.sizeOf4,
  v4 := Try.zeroValue4,
  t9 := Try.underlying9,
  a9 := Try.isAgg9,
  z9 := Try.sizeOf9,
  v9 := Try.zeroValue9,
  t20 := Try.underlying20,
  a20 := Try.isAgg20,
  z20 := Try.sizeOf20,
  v20 := Try.zeroValue20,
  t22 := Try.underlying29,
  a22 := Try.isAgg29,
  z22 := Try.sizeOf29,
  v22 := Try.zeroValue29 }
end YtafalojjbghlhaaAM
