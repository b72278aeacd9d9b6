/- The parts of this seat that only compute. -/
import Derived.Test.YtcneiffdekbmnaacTrees
namespace Go.Ev.Cache
open Go Go.Ev Go.Proofs

def inB (x : Int) (k : Nat) : Bool := decide (0 ≤ x) && decide (x < 2 ^ k)
def handled (x : Int) : Bool := x == 6 || x == 17
def flowMay (f : D23) : Bool := inB f.1 32 && (inB f.2.1 32 && (handled f.2.2.1 && (inB f.2.2.2.1 16 && inB f.2.2.2.2 16)))
def phaseMay (x : Int) : Bool := decide (0 ≤ x) && decide (x ≤ 2)
def timeMay (x : Int) : Bool := decide (0 ≤ x) && decide (x ≤ 1048576)
def entryMay (e : D25) : Bool := flowMay e.1 && (inB e.2.1 8 && (phaseMay e.2.2.2.1 && timeMay e.2.2.2.2))
def limit (p : Int) : Int × Int := if phaseMay p then (if p = 0 then (40, 0) else (6, 0)) else (0, 1400)
def ran (e : D25) (now : Int) : Bool := !entryMay e || decide (e.2.2.2.2 + (limit e.2.2.2.1).1 ≤ now)

variable (S : Claim)

theorem p35 {x k : Int} {n : Nat} (hk : k = (n : Int)) (hn : n ≤ 63) : PureAt cx.P 35 [.int .i64 x, .int .i64 k] S .bool (inB x n) := by
  subst hk
  refine pure_of ok Try.func35 (T35_eq x n) (wp_must (fun _ => by omega) (wp_ret ?_))
  congr 1
  unfold inB
  rw [show min (n : Int).toNat IntKind.i64.bits = n from by simp [IntKind.bits]; omega]
  by_cases h : 0 ≤ x
  · simp only [ge_iff_le, h, decide_true, cond_true, Bool.true_and]
    rw [Bool.eq_iff_iff]
    simp only [beq_iff_eq, decide_eq_true_eq]
    have h2 : (0 : Int) < 2 ^ n := Int.pow_pos (by decide)
    rw [Int.fdiv_eq_ediv_of_nonneg _ (Int.le_of_lt h2)]
    constructor
    · intro e
      have e1 := Int.emod_add_mul_ediv x (2 ^ n)
      have e2 := Int.emod_lt_of_pos x h2
      rw [e, Int.mul_zero] at e1
      omega
    · intro e
      exact Int.ediv_eq_zero_of_lt h e
  · simp [h]

theorem p45 {x k : Int} {n : Nat} (hk : k = (n : Int)) (hn : n ≤ 62) : PureAt cx.P 45 [.int .i64 x, .int .i64 k] S .bool (inB x n) := by
  subst hk
  refine pure_of ok Try.func45 (T45_eq x n) (wp_must (fun _ => by omega) (wp_ret ?_))
  congr 1
  unfold inB
  rw [show min (n : Int).toNat IntKind.i64.bits = n from by simp [IntKind.bits]; omega]
  have h2 : (0 : Int) < 2 ^ n := Int.pow_pos (by decide)
  have h3 : (2 : Int) ^ n ≤ 2 ^ 62 := by exact_mod_cast Nat.pow_le_pow_right (n := 2) (by decide) hn
  rw [Int.one_mul, wrap_i64 (by omega) (by omega)]
  by_cases h : 0 ≤ x <;> simp [h]

theorem p44 {x : Int} : PureAt cx.P 44 [.int .i64 x] S .bool (handled x) := by
  refine pure_of ok Try.func44 (T44_eq x) (wp_ret ?_)
  congr 1
  all_goals (unfold handled; cases x == 6 <;> rfl)

theorem p36 {x : Int} : PureAt cx.P 36 [.int .i64 x] S .bool (phaseMay x) := by
  refine pure_of ok Try.func36 (T36_eq x) (wp_ret ?_)
  congr 1
  unfold phaseMay
  by_cases h : 0 ≤ x <;> simp [h]
theorem p38 {x : Int} : PureAt cx.P 38 [.int .i64 x] S .bool (phaseMay x) := by
  refine pure_of ok Try.func38 (T38_eq x) (wp_ret ?_)
  congr 1
  unfold phaseMay
  by_cases h : 0 ≤ x <;> simp [h]
theorem p43 {x y : Int} : PureAt cx.P 43 [.int .i64 x, .int .i64 y] S .bool (decide (0 ≤ x) && decide (x ≤ y)) := by
  refine pure_of ok Try.func43 (T43_eq x y) (wp_ret ?_)
  congr 1
  by_cases h : 0 ≤ x <;> simp [h]
theorem p30 {x : Int} : PureAt cx.P 30 [.int .i64 x] S .bool (timeMay x) :=
  pure_of ok Try.func30 (T30_eq x) (wp_dcall (p43 _) (wp_ret rfl))
theorem p32 {x : Int} : PureAt cx.P 32 [.int .i64 x] S .bool (timeMay x) := by
  refine pure_of ok Try.func32 (T32_eq x) (wp_ret ?_)
  congr 1
  unfold timeMay
  by_cases h : 0 ≤ x <;> simp [h]

theorem p34 {f : D23} : PureAt cx.P 34 [S23.enc f] S .bool (flowMay f) := by
  refine pure_of ok Try.func34 (T34_eq f) (wp_dcall (p35 _ (n := 32) rfl (by decide)) (wp_dcall (p35 _ (n := 32) rfl (by decide)) (wp_dcall (p44 _) (wp_dcall (p35 _ (n := 16) rfl (by decide)) (wp_dcall (p35 _ (n := 16) rfl (by decide)) (wp_ret ?_))))))
  unfold flowMay
  cases inB f.1 32 <;> cases inB f.2.1 32 <;> cases handled f.2.2.1 <;> cases inB f.2.2.2.1 16 <;> rfl
theorem p37 {f : D23} : PureAt cx.P 37 [S23.enc f] S .bool (flowMay f) := by
  refine pure_of ok Try.func37 (T37_eq f) (wp_dcall (p45 _ (n := 32) rfl (by decide)) (wp_dcall (p45 _ (n := 32) rfl (by decide)) (wp_dcall (p45 _ (n := 16) rfl (by decide)) (wp_dcall (p45 _ (n := 16) rfl (by decide)) (wp_ret ?_)))))
  unfold flowMay handled
  cases inB f.1 32 <;> cases inB f.2.1 32 <;> cases f.2.2.1 == 6 <;> cases f.2.2.1 == 17 <;> cases inB f.2.2.2.1 16 <;> rfl
theorem p21 {e : D25} : PureAt cx.P 21 [S25.enc e] S .bool (entryMay e) := by
  refine pure_of ok Try.func21 (T21_eq e) (wp_dcall (p34 _ (f := e.1)) (wp_dcall (p35 _ (n := 8) rfl (by decide)) (wp_dcall (p36 _) (wp_dcall (p30 _) (wp_ret ?_)))))
  unfold entryMay
  cases flowMay e.1 <;> cases inB e.2.1 8 <;> cases phaseMay e.2.2.2.1 <;> rfl
theorem p24 {e : D25} : PureAt cx.P 24 [S25.enc e] S .bool (entryMay e) := by
  refine pure_of ok Try.func24 (T24_eq e) (wp_dcall (p37 _ (f := e.1)) (wp_dcall (p38 _) (wp_dcall (p32 _) (wp_ret ?_))))
  unfold entryMay
  rw [show inB e.2.1 8 = (decide (e.2.1 ≥ 0) && decide (e.2.1 ≤ 255)) from by unfold inB; rw [Bool.eq_iff_iff]; simp; omega]
  cases flowMay e.1 <;> cases decide (e.2.1 ≥ 0) <;> cases decide (e.2.1 ≤ 255) <;> cases phaseMay e.2.2.2.1 <;> rfl
theorem p41 {x : Int} : PureAt cx.P 41 [.int .i64 x] S (.tup (.pair (.int .i64) (.int .i64))) (limit x) := by
  refine pure_of ok Try.func41 (T41_eq x) (wp_dcall (p36 _) ?_)
  unfold limit
  cases phaseMay x
  · exact wp_cond (fun _ => wp_ret rfl) (fun h => by cases h)
  · refine wp_cond (fun h => by cases h) (fun _ => wp_cond (fun h => ?_) (fun h => ?_))
    · simp at h; rw [if_pos rfl, if_pos h]; exact wp_ret rfl
    · simp at h; rw [if_pos rfl, if_neg h]; exact wp_ret rfl
theorem p42 {x : Int} : PureAt cx.P 42 [.int .i64 x] S (.tup (.pair (.int .i64) (.int .i64))) (limit x) := by
  refine pure_of ok Try.func42 (T42_eq x) (wp_dcall (p38 _) ?_)
  unfold limit
  cases phaseMay x
  · exact wp_cond (fun _ => wp_ret rfl) (fun h => by cases h)
  · refine wp_cond (fun h => by cases h) (fun _ => wp_cond (fun h => ?_) (fun h => ?_))
    · simp at h; rw [if_pos rfl, if_pos h]; exact wp_ret rfl
    · simp at h; rw [if_pos rfl, if_neg h]; exact wp_ret rfl

theorem limit_range (p : Int) : 0 ≤ (limit p).1 ∧ (limit p).1 ≤ 40 := by
  unfold limit
  split
  · split <;> decide
  · decide
theorem entryMay_used {e : D25} (h : entryMay e = true) : 0 ≤ e.2.2.2.2 ∧ e.2.2.2.2 ≤ 1048576 := by
  unfold entryMay timeMay at h
  simp only [Bool.and_eq_true, decide_eq_true_eq] at h
  exact h.2.2.2

theorem p27 {e : D25} {now : Int} : PureAt cx.P 27 [S25.enc e, .int .i64 now] S .bool (ran e now) := by
  refine pure_of ok Try.func27 (T27_eq e now) (wp_dcall (p41 _) (wp_dcall (p21 _ (e := e)) (wp_ret ?_)))
  unfold ran
  cases h : entryMay e
  · rfl
  · have := entryMay_used h
    have := limit_range e.2.2.2.1
    simp only [Bool.not_true, cond_false, Bool.false_or]
    rw [wrap_i64 (by omega) (by omega)]
    rfl
theorem p28 {e : D25} {now : Int} (hnow : now < 9223372036854775808) (hnow' : -9223372036854775808 ≤ now) : PureAt cx.P 28 [S25.enc e, .int .i64 now] S .bool (ran e now) := by
  refine pure_of ok Try.func28 (T28_eq e now) (wp_dcall (p24 _ (e := e)) ?_)
  unfold ran
  cases h : entryMay e
  · exact wp_cond (fun _ => wp_ret rfl) (fun h => by cases h)
  · refine wp_cond (fun h => by cases h) (fun _ => wp_dcall (p42 _) (wp_ret ?_))
    congr 1
    have := entryMay_used h
    have := limit_range e.2.2.2.1
    simp only [Bool.not_true, Bool.false_or]
    by_cases h0 : 0 ≤ now
    · rw [wrap_i64 (by omega) (by omega)]
      rw [Bool.eq_iff_iff]
      simp only [ge_iff_le, h0, decide_true, cond_true, decide_eq_true_eq]
      omega
    · simp only [ge_iff_le, h0, decide_false, cond_false]
      symm
      simp only [decide_eq_false_iff_not]
      omega
end Go.Ev.Cache
