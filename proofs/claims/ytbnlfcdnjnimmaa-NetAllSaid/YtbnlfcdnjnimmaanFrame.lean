/- What the statements of this seat share: the measure of the arguments, the closed facts of the program. -/
import Derived.Test.YtbnlfcdnjnimmaanAwake
import Derived.Test.YtbnlfcdnjnimmaaRows
namespace Go.Ev.Nets
open Go Go.Ev Go.Proofs
theorem full : ∀ t e, t < cx.P.types.size → cx.P.underlying t = some (.slice e) → 0 < cx.P.cellsOf e := slices_full_of cx.P (by kernel_rfl)
theorem kids : Kids cx.P (· < cx.P.types.size) := kids_rows (by kernel_rfl) (by kernel_rfl)
theorem own : ownKnob Try.prog.godebug = none := by kernel_rfl
theorem under22 : cx.under 22 = .slice 9 := by kernel_rfl
theorem okT22 : okT cx 12 22 = true := by kernel_rfl
theorem open22 {S : Claim} {v : Value} {n : Nat} : (∃ (s : Sl) (xs : List (cx.shape 11 9).den), v = .slice s.a s.len s.cap ∧ s.len ≤ s.cap ∧ s.cap ≤ maxLen ∧ Rows S (cx.shape 11 9) s xs ∧ xs.length + 1 ≤ n) =
    (∃ (s : Sl) (xs : List ByteArray), v = .slice s.a s.len s.cap ∧ s.len ≤ s.cap ∧ s.cap ≤ maxLen ∧ Rows S .str s xs ∧ xs.length + 1 ≤ n) := by kernel_rfl
theorem under23 : cx.under 23 = .slice 3 := by kernel_rfl
theorem okT23 : okT cx 12 23 = true := by kernel_rfl
theorem open23 {S : Claim} {v : Value} {n : Nat} : (∃ (s : Sl) (xs : List (cx.shape 11 3).den), v = .slice s.a s.len s.cap ∧ s.len ≤ s.cap ∧ s.cap ≤ maxLen ∧ Rows S (cx.shape 11 3) s xs ∧ xs.length + 1 ≤ n) =
    (∃ (s : Sl) (xs : List Int), v = .slice s.a s.len s.cap ∧ s.len ≤ s.cap ∧ s.cap ≤ maxLen ∧ Rows S (.int .i64) s xs ∧ xs.length + 1 ≤ n) := by kernel_rfl
end Go.Ev.Nets
namespace Go.Proofs.Ytbnlfcdnjnimmaa.frame
open Go Go.Ev Go.Ev.Nets
theorem all_sum {D : Type} : ∀ l : List (DataW D), Rows.uptoBulkAll l = (l.map Rows.uptoBulk).sum
  | [] => by simp [Rows.uptoBulkAll]
  | d :: l => by simp [Rows.uptoBulkAll, all_sum l]
theorem bulk {D : Type} : Bulk (D := D) Rows.uptoBulk where
  pos d := by
    cases d with
    | lit l => cases l <;> simp [Rows.uptoBulk]
    | nil => simp [Rows.uptoBulk]
    | ptr d => simp [Rows.uptoBulk]
    | slice elems spare => simp [Rows.uptoBulk]
    | agg parts => simp [Rows.uptoBulk]
    | iface t d => simp [Rows.uptoBulk]
    | map entries => simp [Rows.uptoBulk]
    | held h => simp [Rows.uptoBulk]
  str s := by simp [Rows.uptoBulk]
  slice es sp := by rw [← all_sum]; simp [Rows.uptoBulk]; try omega
  agg ds := by rw [← all_sum]; simp [Rows.uptoBulk]
end Go.Proofs.Ytbnlfcdnjnimmaa.frame
