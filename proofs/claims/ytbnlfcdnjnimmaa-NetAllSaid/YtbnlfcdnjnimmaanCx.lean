/- The program of this seat, as the framework takes it. -/
import Derived.Test.YtbnlfcdnjnimmaaEvP
import Derived.Test.YtbnlfcdnjnimmaaProg
import Derived.KernelRfl
namespace Go.Ev.Nets
open Go Go.Ev Go.Proofs

def fnsGood : List Nat := [3, 4, 5, 6, 7, 8, 9, 10, 11, 12, 13, 14, 15, 16, 17, 18, 19, 20, 21, 22]
def fnsPure : List Nat := [3, 4, 5, 6, 8, 16, 18, 20]
noncomputable def cx : Cx := { P := Try.prog, pure := fun n => memN n fnsPure, good := fun n => memN n fnsGood, eqT := fun t => memN t [] }

theorem cx_good : (fnsGood.all fun f => goodB Try.prog f) = true := by kernel_rfl
theorem cx_eq : (([] : List Nat).all fun t => eqB cx 12 t && !cx.P.eqGuardType cx.P.depth t) = true := by kernel_rfl
theorem cx_mix : Try.prog.follows .mixedOrders = true := by kernel_rfl
theorem ok : CxOK cx := ⟨good_list cx_good, eq_list cx_eq, cx_mix⟩
end Go.Ev.Nets
