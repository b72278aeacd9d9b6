/- Caches: for any entries, entry, flow and time of bulk at most 1048576 the statement's function returns true, and its arguments stay: the theorem of the claim. -/
import Derived.Test.YtcneiffdekbmnaacLaw
import Derived.Test.YtcneiffdekbmnaaRows
namespace Go.Proofs.Ytcneiffdekbmnaa.caches
open Go Go.Ev Go.Ev.Cache Go.ChangeShapes Go.WideShapes Go.ChangeAt Go.RowKit

theorem all_sum {D : Type} : ∀ l : List (DataW D), Rows.uptoBulkAll l = (l.map Rows.uptoBulk).sum
  | [] => by simp [Rows.uptoBulkAll]
  | d :: l => by simp [Rows.uptoBulkAll, all_sum l]

theorem bulk {D : Type} : Bulk (D := D) Rows.uptoBulk where
  pos d := by
    cases d with
    | lit l => cases l <;> simp [Rows.uptoBulk]
    | nil => simp [Rows.uptoBulk]
    | ptr d => simp [Rows.uptoBulk]
    | slice elems spare => simp [Rows.uptoBulk]
    | agg parts => simp [Rows.uptoBulk]
    | iface t d => simp [Rows.uptoBulk]
    | map entries => simp [Rows.uptoBulk]
    | held h => simp [Rows.uptoBulk]
  str s := by simp [Rows.uptoBulk]
  slice es sp := by rw [← all_sum]; simp [Rows.uptoBulk]; try omega
  agg ds := by rw [← all_sum]; simp [Rows.uptoBulk]

theorem own : ownKnob Try.prog.godebug = none := by kernel_rfl
theorem kids : Kids cx.P (· < cx.P.types.size) := kids_rows (by kernel_rfl) (by kernel_rfl)
theorem full : ∀ t e, t < cx.P.types.size → cx.P.underlying t = some (.slice e) → 0 < cx.P.cellsOf e := slices_full_of cx.P (by kernel_rfl)

abbrev i64 {D : Type} (n : Int) : DataW D := .lit (.int .i64 n)
def witF (D : Type) : DataW D := .agg [i64 0, i64 0, i64 0, i64 0, i64 0]
def wit (D : Type) : List (DataW D) × List (DataW D) × List MemPlace := ([.nil, .agg [witF D, i64 0, .lit (.bool false), i64 0, i64 0], witF D, i64 0], [], [])

theorem contract (D : Type) (enc : TypeId × Value → D) (W : World) (base : Nat) (args : Array Value) (ds gs : List (DataW D)) (before : List MemPlace)
    (hval : ∀ (j : Nat) t v, Try.f3.params[j]? = some t → args[j]? = some v → Value.okWide Try.prog W .any base t v)
    (hW : DataW.Whole enc Try.prog Try.f3.params.toList Rows.cachesSpec.vars false W args.toList ds gs before) (hk : Rows.uptoSmall D (ds ++ gs) = true) :
    Calls Try.prog 3 args W fun e W' => ∃ v, e = .returned v ∧ Rows.cachesSpec.post enc Try.prog Try.f3 false true false false W args v W' := by
  have hW' := hW
  obtain ⟨p, q, hA0, hV, rfl, hfz, hnd⟩ := hW
  have hA : DataW.TrodAll enc Try.prog W 0 (fun _ => true) true Try.f3.params.toList args.toList ds p := hA0
  rw [Try.params3] at hA hval
  obtain ⟨v0, vs0, d0, ds0, p0, q0, hargs, rfl, rfl, h0, r0⟩ := trodAll_cons hA
  obtain ⟨v1, vs1, d1, ds1, p1, q1, rfl, rfl, rfl, h1, r1⟩ := trodAll_cons r0
  obtain ⟨v2, vs2, d2, ds2, p2, q2, rfl, rfl, rfl, h2, r2⟩ := trodAll_cons r1
  obtain ⟨v3, vs3, d3, ds3, p3, q3, rfl, rfl, rfl, h3, r3⟩ := trodAll_cons r2
  obtain ⟨rfl, rfl, rfl⟩ := trodAll_nil r3
  obtain rfl : args = #[v0, v1, v2, v3] := by cases args; simp_all
  obtain ⟨rfl, rfl⟩ := trodVars_none hV
  have hb : Rows.uptoBulk d0 ≤ 1048576 := by
    have h := of_decide_eq_true hk
    rw [all_sum] at h
    simp at h
    omega
  obtain ⟨s, xs, rfl, _, _, hs, hn⟩ := open22.mp (known_row (cx := cx) under22 (known_arg bulk okT22 (hval 0 22 v0 rfl rfl) h0))
  obtain ⟨e, rfl⟩ := open26.mp (let ⟨y, e, _⟩ := known_arg (cx := cx) bulk okT26 (hval 1 26 v1 rfl rfl) h1; ⟨y, e⟩)
  obtain ⟨f, rfl⟩ := open24.mp (let ⟨y, e, _⟩ := known_arg (cx := cx) bulk okT24 (hval 2 24 v2 rfl rfl) h2; ⟨y, e⟩)
  obtain ⟨now, rfl, rfl, rfl, wn⟩ := open_int Try.underlying3 (hval 3 3 v3 rfl rfl) h3
  have bn := bounds_i64 wn
  refine (law_calls (c3 (e := e) (f := f) (now := now) hs (by show xs.length ≤ 2000000; omega) (by omega) (by omega))).mono ?_
  rintro e W' ⟨rfl, hbel⟩
  exact ⟨_, rfl, law_post kids full (by decide) rfl rfl Try.underlying4 hW' rfl hbel⟩

set_option maxRecDepth 100000 in
theorem lifted (os : Os) (started : os.Started) (D : Type) (enc : TypeId × Value → D) (F : Stop.Interp) :
    ReturnsInHanded {} Try.checked os 3 .any ((Rows.OpenSpec.upto Rows.cachesSpec).pre6 enc Try.prog Try.f3 Rows.cachesUptoRow.domain false) (((Rows.OpenSpec.upto Rows.cachesSpec).at F).post enc Try.prog Try.f3 false true false false) := by
  refine returnsInHanded_of_cond (C := Try.checked) (s := Rows.OpenSpec.upto Rows.cachesSpec) (k := Rows.uptoSmall) rfl own started (by kernel_rfl) Try.func3
    (OpenSpec.witness (enc := enc) (C := Try.checked) (s := Rows.OpenSpec.upto Rows.cachesSpec) (k := Rows.uptoSmall) rfl false ⟨#[], #[.slice none 0 0, S25.enc zeroE, S23.enc zeroF, .int .i64 0], []⟩ 8 (by kernel_rfl) (by kernel_rfl) (by kernel_rfl)
      (x := wit D) (by kernel_rfl) rfl (by kernel_rfl)) ?_
  intro W base args ds gs before hval hW _ hk _
  exact contract D enc W base args ds gs before hval hW hk

/-- Caches holds. -/
theorem proved : Rows.CachesUptoSaid :=
  OpenClaim.holds_of_cond 3 Try.f3 rfl rfl rfl rfl rfl rfl rfl ⟨rfl, rfl, rfl, rfl, rfl⟩ rfl rfl rfl rfl rfl (by kernel_rfl) Try.func3 (by kernel_rfl)
    (of_decide_eq_true (by kernel_rfl)) (by unfold Func.isWrapper; first | (rw [if_pos (by decide +kernel)]; kernel_rfl) | (rw [if_neg (by decide +kernel)]; exact ⟨rfl, rfl⟩))
    (fun os started D enc _ F => lifted os started D enc F)
end Go.Proofs.Ytcneiffdekbmnaa.caches
