/- The types and functions of this translation, for the evaluator. Written by a program of this session. -/
import Derived.Test.YtkkmoeimcedkgaaHwCode
import Derived.Test.YtkkmoeimcedkgaaProg
import Derived.KernelRfl
set_option linter.unusedVariables false
set_option maxRecDepth 100000
namespace Go.Proofs.Ytkkmoeimcedkgaa.Hw
open Go Go.Proofs
def tT : List (Nat × TI) := [
  (3, ⟨false, [(.int .i64 0)], .scalar, false⟩),
  (4, ⟨false, [(.bool false)], .scalar, false⟩),
  (22, ⟨false, [(.slice none 0 0)], .slice 53 3 40, false⟩),
  (23, ⟨false, [(.slice none 0 0)], .slice 66 2 16, false⟩),
  (25, ⟨true, [(.slice none 0 0), (.slice none 0 0)], .struct [(0, 1, false), (1, 1, false)], false⟩),
  (26, ⟨false, [(.int .i64 0)], .scalar, false⟩),
  (28, ⟨true, [(.int .i64 0), (.int .i64 0), (.int .i64 0)], .struct [(0, 1, false), (1, 1, false), (2, 1, false)], false⟩),
  (32, ⟨false, [(.int .i64 0)], .scalar, false⟩),
  (40, ⟨false, [(.slice none 0 0)], .slice 28 3 24, false⟩),
  (44, ⟨false, [(.slice none 0 0)], .slice 32 1 8, false⟩),
  (50, ⟨false, [(.int .i64 0)], .scalar, false⟩),
  (51, ⟨false, [(.slice none 0 0)], .slice 50 1 8, false⟩),
  (53, ⟨true, [(.int .i64 0), (.bool false), (.slice none 0 0)], .struct [(0, 1, false), (1, 1, false), (2, 1, false)], false⟩),
  (56, ⟨false, [(.pointer none)], .scalar, false⟩),
  (58, ⟨true, [(.slice none 0 0), (.slice none 0 0)], .struct [(0, 2, true)], false⟩),
  (60, ⟨false, [(.pointer none)], .scalar, false⟩),
  (62, ⟨true, [(.slice none 0 0), (.slice none 0 0)], .struct [(0, 2, true)], false⟩),
  (64, ⟨false, [(.int .i64 0)], .scalar, false⟩),
  (66, ⟨true, [(.int .i64 0), (.int .i64 0)], .struct [(0, 1, false), (1, 1, false)], true⟩),
  (69, ⟨false, [.nilFunc], .scalar, false⟩),
  (72, ⟨false, [.nilFunc], .scalar, false⟩),
  (86, ⟨false, [.nilFunc], .scalar, false⟩)]
def tR : List (Nat × List Nat) := [(3, [4]), (4, [4]), (5, [4]), (6, [4]), (7, [4]), (8, [4]), (9, [4]), (10, [25]), (11, [25, 32]), (12, [25, 32]), (13, [4]), (14, [3, 32]), (15, [3, 32]), (16, [4, 32]), (17, [4, 32]), (18, [4, 32]), (19, [4, 32]), (20, [40, 32]), (21, [4]), (22, [25, 44]), (23, [25, 44]), (24, [25]), (25, [4]), (26, [40]), (27, [25]), (28, [4]), (29, [25]), (30, [32]), (31, [4]), (32, [4]), (33, [4]), (34, [50]), (35, [50]), (36, [4]), (37, [4]), (38, [4]), (39, [4]), (40, [4]), (41, [4]), (42, [4]), (43, [4]), (44, [23]), (45, [51]), (46, [4]), (47, [32]), (48, [23]), (49, [4]), (50, [4]), (51, []), (52, []), (53, []), (54, []), (55, []), (56, [4]), (57, [4]), (58, [4]), (59, [4]), (60, [3]), (61, [3]), (62, []), (63, []), (64, []), (65, []), (66, [4]), (67, [3]), (68, [3]), (69, [])]
theorem tT_ok : chkT Try.prog tT = true := by kernel_rfl
theorem tR_ok : chkR Try.prog tR = true := by kernel_rfl
theorem mixed : Try.prog.follows .mixedOrders = true := by kernel_rfl
noncomputable def cx (n : Nat) (virt : List (Nat × Bool)) (loops : List (Nat × LD)) (perms : List (Nat × OT)) : Cx := ⟨Try.prog, tT, tR, n, virt, loops, perms⟩
theorem cxOk (n : Nat) (virt : List (Nat × Bool)) (loops : List (Nat × LD)) (perms : List (Nat × OT)) : CxOk (cx n virt loops perms) := ⟨chkT_ok tT_ok, chkR_ok tR_ok, mixed⟩
end Go.Proofs.Ytkkmoeimcedkgaa.Hw

