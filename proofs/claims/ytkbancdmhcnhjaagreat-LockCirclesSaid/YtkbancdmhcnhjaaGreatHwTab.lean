/- The types and functions of this translation, for the evaluator. Written by a program of this session. -/
import Derived.Test.YtkbancdmhcnhjaaGreatHwCode
import Derived.Test.YtkbancdmhcnhjaaGreatProg
import Derived.KernelRfl
set_option linter.unusedVariables false
set_option maxRecDepth 100000
namespace Go.Proofs.YtkbancdmhcnhjaaGreat.Hw
open Go Go.Proofs
def tT : List (Nat × TI) := [
  (3, ⟨false, [(.int .i64 0)], .scalar, false⟩),
  (4, ⟨false, [(.bool false)], .scalar, false⟩),
  (5, ⟨false, [(.int .u8 0)], .scalar, false⟩),
  (9, ⟨false, [(.string ByteArray.empty)], .string, false⟩),
  (22, ⟨false, [(.slice none 0 0)], .slice 55 3 32, false⟩),
  (23, ⟨false, [(.slice none 0 0)], .slice 62 3 32, false⟩),
  (24, ⟨false, [(.slice none 0 0)], .slice 45 2 16, false⟩),
  (26, ⟨true, [(.slice none 0 0), (.slice none 0 0), (.slice none 0 0)], .struct [(0, 1, false), (1, 1, false), (2, 1, false)], false⟩),
  (30, ⟨false, [(.slice none 0 0)], .slice 4 1 1, false⟩),
  (31, ⟨false, [(.int .i64 0)], .scalar, false⟩),
  (38, ⟨false, [(.slice none 0 0)], .slice 3 1 8, false⟩),
  (45, ⟨true, [(.int .i64 0), (.int .i64 0)], .array 2 1 false, true⟩),
  (50, ⟨false, [.nilFunc], .scalar, false⟩),
  (53, ⟨false, [.nilFunc], .scalar, false⟩),
  (55, ⟨true, [(.string ByteArray.empty), (.int .i64 0), (.bool false)], .struct [(0, 1, false), (1, 1, false), (2, 1, false)], true⟩),
  (60, ⟨false, [(.pointer none)], .scalar, false⟩),
  (62, ⟨true, [(.int .i64 0), (.string ByteArray.empty), (.bool false)], .struct [(0, 1, false), (1, 1, false), (2, 1, false)], true⟩),
  (66, ⟨false, [.nilFunc], .scalar, false⟩),
  (68, ⟨false, [.nilFunc], .scalar, false⟩),
  (76, ⟨false, [(.map none)], .map 3 4, false⟩),
  (77, ⟨false, [(.map none)], .map 3 38, false⟩),
  (88, ⟨false, [.nilFunc], .scalar, false⟩),
  (102, ⟨false, [(.map none)], .map 3 3, false⟩),
  (103, ⟨false, [(.slice none 0 0)], .slice 38 1 24, false⟩),
  (104, ⟨false, [(.int .u64 0)], .scalar, false⟩),
  (108, ⟨false, [.nilFunc], .scalar, false⟩),
  (116, ⟨false, [(.int .i64 0)], .scalar, false⟩),
  (124, ⟨false, [(.int .u32 0)], .scalar, false⟩),
  (126, ⟨false, [(.int .u64 0)], .scalar, false⟩),
  (128, ⟨false, [(.int .u64 0)], .scalar, false⟩),
  (132, ⟨false, [(.pointer none)], .scalar, false⟩),
  (134, ⟨false, [(.pointer none)], .scalar, false⟩)]
def tR : List (Nat × List Nat) := [(3, [4]), (4, [4]), (5, [4]), (6, [4]), (7, [4]), (8, [26]), (9, [26, 4, 31]), (10, [26, 4, 31]), (11, [4]), (12, [4, 4, 31]), (13, [4, 4, 31]), (14, [26, 38, 31]), (15, [26, 38, 31]), (16, [4]), (17, [26, 38, 31]), (18, [26, 38, 31]), (19, [38, 31]), (20, [38, 31]), (21, [26, 31]), (22, [26, 31]), (23, [4]), (24, [4]), (25, [38, 31]), (26, [38, 31]), (27, [4]), (28, [4]), (29, [4]), (30, [4]), (31, [4]), (32, [26]), (33, [55, 4]), (34, [4]), (35, []), (36, [4]), (37, [4]), (38, [4]), (39, [4]), (40, [55, 4]), (41, [4]), (42, [26]), (43, [4]), (44, [22]), (45, [4]), (46, [23]), (47, [4]), (48, [24]), (49, [4]), (50, [38]), (51, [23]), (52, [26, 38]), (53, [4]), (54, [38]), (55, [38]), (56, [4]), (57, [4]), (58, [38]), (59, [38]), (60, [38]), (61, [38]), (62, [4]), (63, [4]), (64, [3]), (65, [22]), (66, [23]), (67, [24]), (68, [3, 4]), (69, [3]), (70, [4]), (71, [4]), (72, [4]), (73, [22]), (74, [4]), (75, [55]), (76, [22]), (77, [4]), (78, [4]), (79, [4]), (80, [4]), (81, [38]), (82, [3]), (83, [3]), (84, []), (85, [38]), (86, [38]), (87, [3]), (88, [3]), (89, [3]), (90, [3]), (91, [3, 4]), (93, []), (94, [3]), (95, []), (96, [3]), (97, [4]), (98, [4]), (99, []), (100, []), (101, []), (102, []), (103, [3, 116]), (104, []), (105, [4]), (106, [4]), (107, [3]), (108, [3, 4]), (109, [3]), (110, [3]), (111, []), (112, []), (113, [104]), (114, [126]), (115, [3]), (116, [3]), (117, [3, 3])]
def tO : List Nat := [92]
theorem tO_ok : ∀ g, elemN g tO = true → OverOk Tryz.prog g := fun g h => by
  obtain rfl : g = 92 := by
    cases hb : Nat.beq 92 g with
    | true => exact (Nat.eq_of_beq_eq_true hb).symm
    | false => simp only [tO, elemN, hb] at h; cases h
  exact ⟨Tryz.f92, 22, 4, 55, _, by kernel_rfl, by kernel_rfl, by kernel_rfl, by kernel_rfl, by kernel_rfl, by kernel_rfl, rfl⟩
theorem tT_ok : chkT Tryz.prog tT = true := by kernel_rfl
theorem tR_ok : chkR Tryz.prog tR = true := by kernel_rfl
theorem mixed : Tryz.prog.follows .mixedOrders = true := by kernel_rfl
noncomputable def cx (n : Nat) (virt : List (Nat × Bool)) (loops : List (Nat × LD)) (perms : List (Nat × OT)) (nexts : List (Nat × (Value × Value))) : Cx := ⟨Tryz.prog, tT, tR, n, virt, loops, perms, nexts, tO⟩
theorem cxOk (n : Nat) (virt : List (Nat × Bool)) (loops : List (Nat × LD)) (perms : List (Nat × OT)) (nexts : List (Nat × (Value × Value))) : CxOk (cx n virt loops perms nexts) := ⟨chkT_ok tT_ok, ⟨chkR_ok tR_ok, tO_ok⟩, mixed⟩
end Go.Proofs.YtkbancdmhcnhjaaGreat.Hw

