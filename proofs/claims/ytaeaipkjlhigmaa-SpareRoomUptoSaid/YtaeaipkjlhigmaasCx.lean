/- The program of this seat, as the framework takes it. -/
import Derived.Test.YtaeaipkjlhigmaaEvS
import Derived.Test.YtaeaipkjlhigmaaProg
import Derived.KernelRfl
namespace Go.Ev.Spare
open Go Go.Ev Go.Proofs

def fnsGood : List Nat := [3, 4, 5, 6, 7, 8, 9, 10, 11, 12, 13, 14, 15, 16, 17, 18, 19, 20, 21, 22, 23, 24, 25, 26, 27, 28, 29, 30, 31, 32, 33, 34, 35, 36, 37, 38, 39, 40, 41, 42, 43, 44, 45, 46, 47, 48, 49, 50, 51, 52, 53, 54, 55, 56, 57, 58, 59, 60, 61, 62, 63, 64, 65]
def fnsPure : List Nat := [3, 4, 6, 7, 10, 11, 13, 14, 16, 19, 20, 21, 23, 24, 25, 26, 27, 28, 29, 30, 31, 33, 34, 35, 36, 37, 39, 40, 41, 42, 43, 44, 47, 48, 49, 50, 51, 52, 53, 54, 55, 56, 57, 58, 59, 60, 61, 62, 63, 64, 65]
def tysEq : List Nat := [48, 50, 70, 83, 86, 89, 91]
noncomputable def cx : Cx := { P := Try.prog, pure := fun n => memN n fnsPure, good := fun n => memN n fnsGood, eqT := fun t => memN t tysEq }

theorem cx_good : (fnsGood.all fun f => goodB Try.prog f) = true := by kernel_rfl
theorem cx_eq : (tysEq.all fun t => eqB cx 12 t && !cx.P.eqGuardType cx.P.depth t) = true := by kernel_rfl
theorem cx_mix : Try.prog.follows .mixedOrders = true := by kernel_rfl
theorem ok : CxOK cx := ⟨good_list cx_good, eq_list cx_eq, cx_mix⟩
end Go.Ev.Spare
