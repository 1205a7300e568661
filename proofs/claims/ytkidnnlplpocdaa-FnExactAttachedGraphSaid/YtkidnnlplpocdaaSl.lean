/-
  The library's sort lies in this program as the shelf has it. No conditions.
-/
import Derived.Shelf.SlLaysM
import Derived.Test.YtkidnnlplpocdaaProg
set_option linter.all false
set_option linter.all false
namespace Go.Proofs
open Go.Shelf
def lsort_ren : Go.Shelf.Ren := ⟨fun | 5 => 164 | 8 => 188 | 7 => 187 | 19 => 209 | 20 => 210 | 10 => 200 | 11 => 201 | 12 => 202 | 13 => 203 | 14 => 204 | 15 => 205 | 16 => 206 | 17 => 207 | 18 => 208 | 30 => 221 | 31 => 222 | 32 => 223 | 33 => 224 | 34 => 225 | 35 => 199 | 40 => 229 | n => n, fun | 23 => 27 | 25 => 2 | 3 => 3 | 32 => 160 | 22 => 27 | 0 => 0 | 44 => 176 | 46 => 178 | 4 => 4 | 36 => 169 | 35 => 168 | 41 => 173 | 5 => 5 | 9 => 9 | 53 => 185 | 57 => 189 | 63 => 193 | 64 => 194 | n => n, fun | n => n⟩
theorem lsort : Go.Proofs.SlLaysM.n5 Try.prog lsort_ren := {
  mixed := by kernel_rfl
  f5 := ⟨Try.f164.name, by decide, Try.func164.trans (congrArg some (by kernel_rfl))⟩
  f7 := ⟨Try.f187.name, by decide, Try.func187.trans (congrArg some (by kernel_rfl))⟩
  f8 := Try.func188.trans (congrArg some (by kernel_rfl))
  f10 := ⟨Try.f200.name, by decide, Try.func200.trans (congrArg some (by kernel_rfl))⟩
  f11 := ⟨Try.f201.name, by decide, Try.func201.trans (congrArg some (by kernel_rfl))⟩
  f12 := ⟨Try.f202.name, by decide, Try.func202.trans (congrArg some (by kernel_rfl))⟩
  f13 := ⟨Try.f203.name, by decide, Try.func203.trans (congrArg some (by kernel_rfl))⟩
  f14 := ⟨Try.f204.name, by decide, Try.func204.trans (congrArg some (by kernel_rfl))⟩
  f15 := ⟨Try.f205.name, by decide, Try.func205.trans (congrArg some (by kernel_rfl))⟩
  f16 := ⟨Try.f206.name, by decide, Try.func206.trans (congrArg some (by kernel_rfl))⟩
  f17 := ⟨Try.f207.name, by decide, Try.func207.trans (congrArg some (by kernel_rfl))⟩
  f18 := ⟨Try.f208.name, by decide, Try.func208.trans (congrArg some (by kernel_rfl))⟩
  f19 := Try.func209.trans (congrArg some (by kernel_rfl))
  f20 := Try.func210.trans (congrArg some (by kernel_rfl))
  f30 := ⟨Try.f221.name, by decide, Try.func221.trans (congrArg some (by kernel_rfl))⟩
  f31 := Try.func222.trans (congrArg some (by kernel_rfl))
  f32 := Try.func223.trans (congrArg some (by kernel_rfl))
  f33 := ⟨Try.f224.name, by decide, Try.func224.trans (congrArg some (by kernel_rfl))⟩
  f34 := ⟨Try.f225.name, by decide, Try.func225.trans (congrArg some (by kernel_rfl))⟩
  f35 := ⟨Try.f199.name, by decide, Try.func199.trans (congrArg some (by kernel_rfl))⟩
  f40 := ⟨Try.f229.name, by decide, Try.func229.trans (congrArg some (by kernel_rfl))⟩
  t0 := Try.underlying0
  a0 := Try.isAgg0
  z0 := Try.sizeOf0
  v0 := Try.zeroValue0
  t3 := Try.underlying3
  a3 := Try.isAgg3
  z3 := Try.sizeOf3
  v3 := Try.zeroValue3
  t4 := Try.underlying4
  a4 := Try.isAgg4
  z4 := Try.sizeOf4
  v4 := Try.zeroValue4
  t5 := Try.underlying5
  a5 := Try.isAgg5
  z5 := Try.sizeOf5
  v5 := Try.zeroValue5
  t9 := Try.underlying9
  a9 := Try.isAgg9
  z9 := Try.sizeOf9
  v9 := Try.zeroValue9
  t22 := Try.underlying27
  a22 := Try.isAgg27
  z22 := Try.sizeOf27
  v22 := Try.zeroValue27
  t23 := Try.underlying27
  a23 := Try.isAgg27
  z23 := Try.sizeOf27
  v23 := Try.zeroValue27
  t25 := Try.underlying2
  a25 := Try.isAgg2
  z25 := Try.sizeOf2
  v25 := Try.zeroValue2
  t32 := Try.underlying160
  a32 := Try.isAgg160
  z32 := Try.sizeOf160
  v32 := Try.zeroValue160
  t35 := Try.underlying168
  a35 := Try.isAgg168
  z35 := Try.sizeOf168
  v35 := Try.zeroValue168
  t36 := Try.underlying169
  a36 := Try.isAgg169
  z36 := Try.sizeOf169
  v36 := Try.zeroValue169
  t41 := Try.underlying173
  a41 := Try.isAgg173
  z41 := Try.sizeOf173
  v41 := Try.zeroValue173
  t44 := Try.underlying176
  a44 := Try.isAgg176
  z44 := Try.sizeOf176
  v44 := Try.zeroValue176
  t46 := Try.underlying178
  a46 := Try.isAgg178
  z46 := Try.sizeOf178
  v46 := Try.zeroValue178
  t53 := Try.underlying185
  a53 := Try.isAgg185
  z53 := Try.sizeOf185
  v53 := Try.zeroValue185
  t57 := Try.underlying189
  a57 := Try.isAgg189
  z57 := Try.sizeOf189
  v57 := Try.zeroValue189
  t63 := Try.underlying193
  a63 := Try.isAgg193
  z63 := Try.sizeOf193
  v63 := Try.zeroValue193
  t64 := Try.underlying194
  a64 := Try.isAgg194
  z64 := Try.sizeOf194
  v64 := Try.zeroValue194 }

end Go.Proofs
