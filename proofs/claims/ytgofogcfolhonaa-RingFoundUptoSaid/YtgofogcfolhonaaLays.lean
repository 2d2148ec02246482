/- WHERE THE SHELF's CONTRACTS LIE in this program: the numbers of its functions and types, each body compared by the kernel. Written by wip/gen/lays.py. -/
import Derived.Shelf.Bytes.SlIndexWhole
import Derived.Test.YtgofogcfolhonaaProg
import Derived.KernelRfl
namespace Go.Proofs.Ytgofogcfolhonaa
open Go Go.Shelf Go.Proofs
def lren : Go.Shelf.Ren := ⟨fun | 115 => 83 | 185 => 67 | 187 => 82 | 224 => 85 | 253 => 84 | 254 => 86 | 255 => 88 | 291 => 89 | n => n, fun | 0 => 0 | 3 => 3 | 4 => 4 | 5 => 5 | 9 => 9 | 37 => 66 | 46 => 133 | 51 => 135 | 146 => 136 | n => n, fun | 1 => 0 | n => n⟩
theorem lays185 : Go.Proofs.Lays.n185 Try.prog lren := {
  mixed := by kernel_rfl
  f115 := Try.func83.trans (congrArg some (by kernel_rfl))
  f185 := Try.func67.trans (congrArg some (by kernel_rfl))
  f187 := Try.func82.trans (congrArg some (by kernel_rfl))
  f224 := Try.func85.trans (congrArg some (by kernel_rfl))
  f253 := Try.func84.trans (congrArg some (by kernel_rfl))
  f254 := Try.func86.trans (congrArg some (by kernel_rfl))
  f255 := Try.func88.trans (congrArg some (by kernel_rfl))
  f291 := Try.func89.trans (congrArg some (by kernel_rfl))
  t0 := Try.underlying0
  a0 := Try.isAgg0
  z0 := Try.sizeOf0
  v0 := Try.zeroValue0
  t3 := Try.underlying3
  a3 := Try.isAgg3
  z3 := Try.sizeOf3
  v3 := Try.zeroValue3
  t4 := Try.underlying4
  a4 := Try.isAgg4
  z4 := Try.sizeOf4
  v4 := Try.zeroValue4
  t5 := Try.underlying5
  a5 := Try.isAgg5
  z5 := Try.sizeOf5
  v5 := Try.zeroValue5
  t9 := Try.underlying9
  a9 := Try.isAgg9
  z9 := Try.sizeOf9
  v9 := Try.zeroValue9
  t37 := Try.underlying66
  a37 := Try.isAgg66
  z37 := Try.sizeOf66
  v37 := Try.zeroValue66
  t46 := Try.underlying133
  a46 := Try.isAgg133
  z46 := Try.sizeOf133
  v46 := Try.zeroValue133
  t51 := Try.underlying135
  a51 := Try.isAgg135
  z51 := Try.sizeOf135
  v51 := Try.zeroValue135
  t146 := Try.underlying136
  a146 := Try.isAgg136
  z146 := Try.sizeOf136
  v146 := Try.zeroValue136
  g1 := by kernel_rfl }
end Go.Proofs.Ytgofogcfolhonaa
