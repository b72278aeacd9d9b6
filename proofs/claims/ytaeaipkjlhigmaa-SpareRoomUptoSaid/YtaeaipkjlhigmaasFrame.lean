/- What the statements of this seat share: the measure of the arguments, the closed facts of the program. -/
import Derived.Test.YtaeaipkjlhigmaasOpen
import Derived.Test.YtaeaipkjlhigmaaRows
namespace Go.Ev.Spare
open Go Go.Ev Go.Proofs
theorem fullT : ∀ t e, t < cx.P.types.size → cx.P.underlying t = some (.slice e) → 0 < cx.P.cellsOf e := slices_full_of cx.P (by kernel_rfl)
theorem kids : Kids cx.P (· < cx.P.types.size) := kids_rows (by kernel_rfl) (by kernel_rfl)
theorem own : ownKnob Try.prog.godebug = none := by kernel_rfl
end Go.Ev.Spare
namespace Go.Proofs.Ytaeaipkjlhigmaa.frame
open Go Go.Ev Go.Ev.Spare
theorem all_sum {D : Type} : ∀ l : List (DataW D), Rows.uptoBulkAll l = (l.map Rows.uptoBulk).sum
  | [] => by simp [Rows.uptoBulkAll]
  | d :: l => by simp [Rows.uptoBulkAll, all_sum l]
theorem bulk {D : Type} : Bulk (D := D) Rows.uptoBulk where
  pos d := by
    cases d with
    | lit l => cases l <;> simp [Rows.uptoBulk]
    | nil => simp [Rows.uptoBulk]
    | ptr d => simp [Rows.uptoBulk]
    | slice elems spare => simp [Rows.uptoBulk]
    | agg parts => simp [Rows.uptoBulk]
    | iface t d => simp [Rows.uptoBulk]
    | map entries => simp [Rows.uptoBulk]
    | held h => simp [Rows.uptoBulk]
  str s := by simp [Rows.uptoBulk]
  slice es sp := by rw [← all_sum]; simp [Rows.uptoBulk]; try omega
  agg ds := by rw [← all_sum]; simp [Rows.uptoBulk]
end Go.Proofs.Ytaeaipkjlhigmaa.frame
