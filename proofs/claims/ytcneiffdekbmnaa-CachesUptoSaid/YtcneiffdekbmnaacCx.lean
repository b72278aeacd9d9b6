/- The program of this seat, as the framework takes it. -/
import Derived.Test.YtcneiffdekbmnaaEvO
import Derived.Test.YtcneiffdekbmnaaProg
import Derived.KernelRfl
namespace Go.Ev.Cache
open Go Go.Ev Go.Proofs

def fnsGood : List Nat := [3, 4, 5, 6, 7, 8, 9, 10, 11, 12, 13, 14, 15, 16, 17, 18, 19, 20, 21, 22, 23, 24, 25, 26, 27, 28, 29, 30, 31, 32, 33, 34, 35, 36, 37, 38, 39, 40, 41, 42, 43, 44, 45]
def fnsPure : List Nat := [3, 7, 8, 13, 14, 15, 16, 18, 19, 21, 23, 24, 26, 27, 28, 29, 30, 31, 32, 33, 34, 35, 36, 37, 38, 39, 40, 41, 42, 43, 44, 45]
noncomputable def cx : Cx := { P := Try.prog, pure := fun n => memN n fnsPure, good := fun n => memN n fnsGood, eqT := fun t => memN t [24, 26] }

theorem cx_good : (fnsGood.all fun f => goodB Try.prog f) = true := by kernel_rfl
theorem cx_eq : ([24, 26].all fun t => eqB cx 12 t && !cx.P.eqGuardType cx.P.depth t) = true := by kernel_rfl
theorem cx_mix : Try.prog.follows .mixedOrders = true := by kernel_rfl
theorem ok : CxOK cx := ⟨good_list cx_good, eq_list cx_eq, cx_mix⟩

theorem f_of {n : Nat} {fn : Func} (h : (Try.prog.funcs[n]? = some fn)) : cx.P.funcs[n]? = some fn := h
end Go.Ev.Cache
