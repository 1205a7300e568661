/-
  The library's sort by a function lies in this program as the shelf has it. No conditions.
-/
import Derived.Shelf.SlLaysF
import Derived.Test.YtkidnnlplpocdaaProg
set_option linter.all false
set_option linter.all false
namespace Go.Proofs
open Go.Shelf
def lsortE_ren : Go.Shelf.Ren := ⟨fun | 6 => 178 | 15 => 188 | 14 => 194 | 28 => 209 | 29 => 210 | 20 => 212 | 21 => 213 | 22 => 214 | 23 => 215 | 24 => 216 | 25 => 217 | 26 => 218 | 27 => 219 | 46 => 226 | 47 => 222 | 48 => 223 | 49 => 227 | 50 => 228 | 57 => 230 | n => n, fun | 22 => 23 | 24 => 27 | 25 => 144 | 3 => 3 | 39 => 160 | 0 => 0 | 53 => 176 | 55 => 178 | 4 => 4 | 46 => 169 | 45 => 168 | 50 => 173 | 5 => 5 | 9 => 9 | 66 => 185 | 70 => 189 | 76 => 193 | 77 => 194 | n => n, fun | n => n⟩
theorem lsortE : Go.Proofs.SlLaysF.n6 Try.prog lsortE_ren := {
  mixed := by kernel_rfl
  f6 := ⟨Try.f178.name, by decide, Try.func178.trans (congrArg some (by kernel_rfl))⟩
  f14 := ⟨Try.f194.name, by decide, Try.func194.trans (congrArg some (by kernel_rfl))⟩
  f15 := Try.func188.trans (congrArg some (by kernel_rfl))
  f20 := ⟨Try.f212.name, by decide, Try.func212.trans (congrArg some (by kernel_rfl))⟩
  f21 := ⟨Try.f213.name, by decide, Try.func213.trans (congrArg some (by kernel_rfl))⟩
  f22 := ⟨Try.f214.name, by decide, Try.func214.trans (congrArg some (by kernel_rfl))⟩
  f23 := ⟨Try.f215.name, by decide, Try.func215.trans (congrArg some (by kernel_rfl))⟩
  f24 := ⟨Try.f216.name, by decide, Try.func216.trans (congrArg some (by kernel_rfl))⟩
  f25 := ⟨Try.f217.name, by decide, Try.func217.trans (congrArg some (by kernel_rfl))⟩
  f26 := ⟨Try.f218.name, by decide, Try.func218.trans (congrArg some (by kernel_rfl))⟩
  f27 := ⟨Try.f219.name, by decide, Try.func219.trans (congrArg some (by kernel_rfl))⟩
  f28 := Try.func209.trans (congrArg some (by kernel_rfl))
  f29 := Try.func210.trans (congrArg some (by kernel_rfl))
  f46 := ⟨Try.f226.name, by decide, Try.func226.trans (congrArg some (by kernel_rfl))⟩
  f47 := Try.func222.trans (congrArg some (by kernel_rfl))
  f48 := Try.func223.trans (congrArg some (by kernel_rfl))
  f49 := ⟨Try.f227.name, by decide, Try.func227.trans (congrArg some (by kernel_rfl))⟩
  f50 := ⟨Try.f228.name, by decide, Try.func228.trans (congrArg some (by kernel_rfl))⟩
  f57 := ⟨Try.f230.name, by decide, Try.func230.trans (congrArg some (by kernel_rfl))⟩
  t0 := Try.underlying0
  a0 := Try.isAgg0
  z0 := Try.sizeOf0
  v0 := Try.zeroValue0
  t3 := Try.underlying3
  a3 := Try.isAgg3
  z3 := Try.sizeOf3
  v3 := Try.zeroValue3
  t4 := Try.underlying4
  a4 := Try.isAgg4
  z4 := Try.sizeOf4
  v4 := Try.zeroValue4
  t5 := Try.underlying5
  a5 := Try.isAgg5
  z5 := Try.sizeOf5
  v5 := Try.zeroValue5
  t9 := Try.underlying9
  a9 := Try.isAgg9
  z9 := Try.sizeOf9
  v9 := Try.zeroValue9
  t22 := Try.underlying23
  a22 := Try.isAgg23
  z22 := Try.sizeOf23
  v22 := Try.zeroValue23
  a24 := Try.isAgg27
  z24 := Try.sizeOf27
  t25 := Try.underlying144
  a25 := Try.isAgg144
  z25 := Try.sizeOf144
  v25 := Try.zeroValue144
  t39 := Try.underlying160
  a39 := Try.isAgg160
  z39 := Try.sizeOf160
  v39 := Try.zeroValue160
  t45 := Try.underlying168
  a45 := Try.isAgg168
  z45 := Try.sizeOf168
  v45 := Try.zeroValue168
  t46 := Try.underlying169
  a46 := Try.isAgg169
  z46 := Try.sizeOf169
  v46 := Try.zeroValue169
  t50 := Try.underlying173
  a50 := Try.isAgg173
  z50 := Try.sizeOf173
  v50 := Try.zeroValue173
  t53 := Try.underlying176
  a53 := Try.isAgg176
  z53 := Try.sizeOf176
  v53 := Try.zeroValue176
  t55 := Try.underlying178
  a55 := Try.isAgg178
  z55 := Try.sizeOf178
  v55 := Try.zeroValue178
  t66 := Try.underlying185
  a66 := Try.isAgg185
  z66 := Try.sizeOf185
  v66 := Try.zeroValue185
  t70 := Try.underlying189
  a70 := Try.isAgg189
  z70 := Try.sizeOf189
  v70 := Try.zeroValue189
  t76 := Try.underlying193
  a76 := Try.isAgg193
  z76 := Try.sizeOf193
  v76 := Try.zeroValue193
  t77 := Try.underlying194
  a77 := Try.isAgg194
  z77 := Try.sizeOf194
  v77 := Try.zeroValue194 }

end Go.Proofs
