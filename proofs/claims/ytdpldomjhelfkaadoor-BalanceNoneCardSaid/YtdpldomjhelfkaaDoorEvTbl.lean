/- The seat's functions. -/
import Derived.Test.YtdpldomjhelfkaaDoorEvSig
import Derived.Test.YtdpldomjhelfkaaDoorEvTy
import Derived.Test.YtdpldomjhelfkaaDoorChecked
namespace Go.Ev
open Go Go.Proofs

def use : List Nat := [3, 4, 5, 6, 7, 8, 9, 10, 11, 12, 13, 14, 15, 16, 17, 18, 19, 20, 21, 22, 23, 24, 25, 26, 27, 28, 30, 32, 33, 34, 35, 36, 37, 38, 40, 45, 46, 47, 48, 52, 53, 54, 55, 57, 58, 59, 60, 61, 62, 63, 64, 65, 72, 73, 74, 75, 76, 77, 78, 79, 80, 81, 86]
def effs : List Nat := [6, 7, 8, 9, 14, 16, 17, 18, 19, 20, 25, 27, 28, 36, 37, 48, 59, 60, 63, 64]
def keeps : List (Nat × List Nat) := [ (10, [1, 7, 12, 13, 29, 30, 31, 41, 42, 43]), (18, [0, 3, 4]), (19, [0, 5, 6]), (22, [0, 1, 29, 30, 39, 40, 43, 44, 47, 48, 49, 50, 51, 52, 55, 56, 59, 60, 61, 62, 63, 64, 65, 66, 67]), (23, [3, 7, 8, 9, 18, 19, 20, 21, 24, 25, 26, 27]), (26, [0, 13, 14, 15]), (27, [0, 4, 15, 16, 17]), (33, [0, 3, 4]), (35, [0, 5, 6, 7, 16, 17, 20, 21, 22, 23, 24, 25]), (57, [0, 5, 6, 7, 8, 9, 50, 51, 52, 53, 54, 55]), (86, [0, 1, 3]) ]
def nFields : Nat := 39
def nTrimLeft : Nat := 29
def nTrim : Nat := 31
def nTopmost : Nat := 56
noncomputable def tbl : Nat → Option Fe := tblOf Tryd.prog use effs keeps
theorem use_checked : use.all (callB Tryd.prog) = true := by kernel_rfl

end Go.Ev
