/- The types and functions of this translation, for the evaluator. Written by a program of this session. -/
import Derived.Test.YtkbancdmhcnhjaaHwCode
import Derived.Test.YtkbancdmhcnhjaaProg
import Derived.KernelRfl
set_option linter.unusedVariables false
set_option maxRecDepth 100000
namespace Go.Proofs.Ytkbancdmhcnhjaa.Hw
open Go Go.Proofs
def tT : List (Nat × TI) := [
  (3, ⟨false, [(.int .i64 0)], .scalar, false⟩),
  (4, ⟨false, [(.bool false)], .scalar, false⟩),
  (5, ⟨false, [(.int .u8 0)], .scalar, false⟩),
  (9, ⟨false, [(.string ByteArray.empty)], .string, false⟩),
  (22, ⟨false, [(.slice none 0 0)], .slice 30 5 48, false⟩),
  (24, ⟨false, [(.slice none 0 0)], .slice 67 3 32, false⟩),
  (25, ⟨false, [(.slice none 0 0)], .slice 42 3 32, false⟩),
  (26, ⟨false, [(.slice none 0 0)], .slice 53 2 16, false⟩),
  (28, ⟨true, [(.slice none 0 0), (.slice none 0 0), (.slice none 0 0)], .struct [(0, 1, false), (1, 1, false), (2, 1, false)], false⟩),
  (30, ⟨true, [(.int .i64 0), (.int .i64 0), (.int .i64 0), (.string ByteArray.empty), (.bool false)], .struct [(0, 1, false), (1, 1, false), (2, 1, false), (3, 1, false), (4, 1, false)], false⟩),
  (33, ⟨false, [(.slice none 0 0)], .slice 3 1 8, false⟩),
  (34, ⟨false, [(.int .i64 0)], .scalar, false⟩),
  (42, ⟨true, [(.int .i64 0), (.string ByteArray.empty), (.bool false)], .struct [(0, 1, false), (1, 1, false), (2, 1, false)], true⟩),
  (53, ⟨true, [(.int .i64 0), (.int .i64 0)], .array 2 1 false, true⟩),
  (55, ⟨false, [(.int .u64 0)], .scalar, false⟩),
  (56, ⟨false, [(.map none)], .map 3 33, false⟩),
  (61, ⟨false, [(.map none)], .map 3 4, false⟩),
  (63, ⟨false, [.nilFunc], .scalar, false⟩),
  (67, ⟨true, [(.string ByteArray.empty), (.int .i64 0), (.bool false)], .struct [(0, 1, false), (1, 1, false), (2, 1, false)], true⟩),
  (68, ⟨false, [.nilFunc], .scalar, false⟩),
  (70, ⟨false, [.nilFunc], .scalar, false⟩),
  (72, ⟨false, [.nilFunc], .scalar, false⟩),
  (74, ⟨false, [(.pointer none)], .scalar, false⟩),
  (86, ⟨false, [(.map none)], .map 3 3, false⟩),
  (88, ⟨false, [.nilFunc], .scalar, false⟩),
  (103, ⟨false, [.nilFunc], .scalar, false⟩),
  (111, ⟨false, [(.int .i64 0)], .scalar, false⟩),
  (119, ⟨false, [(.int .u32 0)], .scalar, false⟩),
  (121, ⟨false, [(.int .u64 0)], .scalar, false⟩),
  (122, ⟨false, [(.int .u64 0)], .scalar, false⟩),
  (126, ⟨false, [(.pointer none)], .scalar, false⟩),
  (129, ⟨false, [(.pointer none)], .scalar, false⟩)]
def tR : List (Nat × List Nat) := [(3, [4]), (4, [4]), (5, [4]), (6, [4]), (7, [4]), (8, [28, 4]), (9, [33, 34]), (10, [4]), (11, [28]), (12, [33, 34]), (13, [28, 33, 34]), (14, [4]), (15, [28, 4, 34]), (16, [4]), (17, [4, 4, 34]), (18, [28, 34]), (19, [28, 33, 34]), (20, [4]), (21, [33]), (22, [33]), (23, [33]), (24, [4]), (25, [4]), (26, [4]), (27, [28]), (28, [24]), (29, [4]), (30, [25]), (31, [4]), (32, [26]), (33, [4]), (34, [33]), (35, [4]), (36, [4]), (37, [4]), (38, [67, 4]), (39, [4]), (40, []), (41, [4]), (42, [4]), (43, [4]), (44, []), (45, [33]), (46, [24]), (47, [4]), (48, [67]), (49, [3]), (50, [24]), (51, [25]), (52, [26]), (53, [3]), (54, [3]), (55, [3]), (56, [4]), (57, [4]), (58, [3, 4]), (59, [4]), (60, [4]), (61, [4]), (62, [24]), (63, [4]), (64, [4]), (65, []), (66, [3]), (67, [3]), (68, [3]), (69, [3, 4]), (70, [3]), (71, [3]), (73, []), (74, [3]), (75, []), (76, []), (77, []), (78, [3, 111]), (79, []), (80, [4]), (81, [4]), (82, [3]), (83, [3, 4]), (84, [3]), (85, [3]), (86, [4]), (87, [4]), (88, []), (89, []), (90, [55]), (91, [121]), (92, [3]), (93, [3]), (94, []), (95, [3, 3])]
def tO : List Nat := [72]
theorem tO_ok : ∀ g, elemN g tO = true → OverOk Try.prog g := fun g h => by
  obtain rfl : g = 72 := by
    cases hb : Nat.beq 72 g with
    | true => exact (Nat.eq_of_beq_eq_true hb).symm
    | false => simp only [tO, elemN, hb] at h; cases h
  exact ⟨Try.f72, 24, 4, 67, _, by kernel_rfl, by kernel_rfl, by kernel_rfl, by kernel_rfl, by kernel_rfl, by kernel_rfl, rfl⟩
theorem tT_ok : chkT Try.prog tT = true := by kernel_rfl
theorem tR_ok : chkR Try.prog tR = true := by kernel_rfl
theorem mixed : Try.prog.follows .mixedOrders = true := by kernel_rfl
noncomputable def cx (n : Nat) (virt : List (Nat × Bool)) (loops : List (Nat × LD)) (perms : List (Nat × OT)) (nexts : List (Nat × (Value × Value))) : Cx := ⟨Try.prog, tT, tR, n, virt, loops, perms, nexts, tO⟩
theorem cxOk (n : Nat) (virt : List (Nat × Bool)) (loops : List (Nat × LD)) (perms : List (Nat × OT)) (nexts : List (Nat × (Value × Value))) : CxOk (cx n virt loops perms nexts) := ⟨chkT_ok tT_ok, ⟨chkR_ok tR_ok, tO_ok⟩, mixed⟩
end Go.Proofs.Ytkbancdmhcnhjaa.Hw

