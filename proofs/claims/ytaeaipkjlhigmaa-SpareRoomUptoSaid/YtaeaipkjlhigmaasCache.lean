/- The cache's part of this seat. -/
import Derived.Test.YtaeaipkjlhigmaasTrees
namespace Go.Ev.Spare
open Go Go.Ev Go.Proofs

section
def inB (x : Int) (k : Nat) : Bool := decide (0 ≤ x) && decide (x < 2 ^ k)
def handled (x : Int) : Bool := x == 6 || x == 17
def flowMay (f : D47) : Bool := inB f.1 32 && (inB f.2.1 32 && (handled f.2.2.1 && (inB f.2.2.2.1 16 && inB f.2.2.2.2 16)))
def phaseMay (x : Int) : Bool := decide (0 ≤ x) && decide (x ≤ 2)
def timeMay (x : Int) : Bool := decide (0 ≤ x) && decide (x ≤ 1048576)
def entryMay (e : D49) : Bool := flowMay e.1 && (inB e.2.1 8 && (phaseMay e.2.2.2.1 && timeMay e.2.2.2.2))

variable (S : Claim)

theorem p57 {x k : Int} {n : Nat} (hk : k = (n : Int)) (hn : n ≤ 63) : PureAt cx.P 57 [.int .i64 x, .int .i64 k] S .bool (inB x n) := by
  subst hk
  refine pure_of ok Try.func57 (T57_eq x n) (wp_must (fun _ => by omega) (wp_ret ?_))
  congr 1
  unfold inB
  rw [show min (n : Int).toNat IntKind.i64.bits = n from by simp [IntKind.bits]; omega]
  by_cases h : 0 ≤ x
  · simp only [ge_iff_le, h, decide_true, cond_true, Bool.true_and]
    rw [Bool.eq_iff_iff]
    simp only [beq_iff_eq, decide_eq_true_eq]
    have h2 : (0 : Int) < 2 ^ n := Int.pow_pos (by decide)
    rw [Int.fdiv_eq_ediv_of_nonneg _ (Int.le_of_lt h2)]
    constructor
    · intro e
      have e1 := Int.emod_add_mul_ediv x (2 ^ n)
      have e2 := Int.emod_lt_of_pos x h2
      rw [e, Int.mul_zero] at e1
      omega
    · intro e
      exact Int.ediv_eq_zero_of_lt h e
  · simp [h]

theorem p62 {x k : Int} {n : Nat} (hk : k = (n : Int)) (hn : n ≤ 62) : PureAt cx.P 62 [.int .i64 x, .int .i64 k] S .bool (inB x n) := by
  subst hk
  refine pure_of ok Try.func62 (T62_eq x n) (wp_must (fun _ => by omega) (wp_ret ?_))
  congr 1
  unfold inB
  rw [show min (n : Int).toNat IntKind.i64.bits = n from by simp [IntKind.bits]; omega]
  have h2 : (0 : Int) < 2 ^ n := Int.pow_pos (by decide)
  have h3 : (2 : Int) ^ n ≤ 2 ^ 62 := by exact_mod_cast Nat.pow_le_pow_right (n := 2) (by decide) hn
  rw [Int.one_mul, wrap_i64 (by omega) (by omega)]
  by_cases h : 0 ≤ x <;> simp [h]

theorem p65 {x : Int} : PureAt cx.P 65 [.int .i64 x] S .bool (handled x) := by
  refine pure_of ok Try.func65 (T65_eq x) (wp_ret ?_)
  congr 1
  all_goals (unfold handled; cases x == 6 <;> rfl)

theorem p59 {x : Int} : PureAt cx.P 59 [.int .i64 x] S .bool (phaseMay x) := by
  refine pure_of ok Try.func59 (T59_eq x) (wp_ret ?_)
  congr 1
  unfold phaseMay
  by_cases h : 0 ≤ x <;> simp [h]
theorem p64 {x : Int} : PureAt cx.P 64 [.int .i64 x] S .bool (phaseMay x) := by
  refine pure_of ok Try.func64 (T64_eq x) (wp_ret ?_)
  congr 1
  unfold phaseMay
  by_cases h : 0 ≤ x <;> simp [h]
theorem p43 {x y : Int} : PureAt cx.P 43 [.int .i64 x, .int .i64 y] S .bool (decide (0 ≤ x) && decide (x ≤ y)) := by
  refine pure_of ok Try.func43 (T43_eq x y) (wp_ret ?_)
  congr 1
  by_cases h : 0 ≤ x <;> simp [h]
theorem p24 {x : Int} : PureAt cx.P 24 [.int .i64 x] S .bool (timeMay x) :=
  pure_of ok Try.func24 (T24_eq x) (wp_dcall (p43 _) (wp_ret rfl))
theorem p26 {x : Int} : PureAt cx.P 26 [.int .i64 x] S .bool (timeMay x) := by
  refine pure_of ok Try.func26 (T26_eq x) (wp_ret ?_)
  congr 1
  unfold timeMay
  by_cases h : 0 ≤ x <;> simp [h]

theorem p58 {f : D47} : PureAt cx.P 58 [S47.enc f] S .bool (flowMay f) := by
  refine pure_of ok Try.func58 (T58_eq f) (wp_dcall (p57 _ (n := 32) rfl (by decide)) (wp_dcall (p57 _ (n := 32) rfl (by decide)) (wp_dcall (p65 _) (wp_dcall (p57 _ (n := 16) rfl (by decide)) (wp_dcall (p57 _ (n := 16) rfl (by decide)) (wp_ret ?_))))))
  unfold flowMay
  cases inB f.1 32 <;> cases inB f.2.1 32 <;> cases handled f.2.2.1 <;> cases inB f.2.2.2.1 16 <;> rfl
theorem p63 {f : D47} : PureAt cx.P 63 [S47.enc f] S .bool (flowMay f) := by
  refine pure_of ok Try.func63 (T63_eq f) (wp_dcall (p62 _ (n := 32) rfl (by decide)) (wp_dcall (p62 _ (n := 32) rfl (by decide)) (wp_dcall (p62 _ (n := 16) rfl (by decide)) (wp_dcall (p62 _ (n := 16) rfl (by decide)) (wp_ret ?_)))))
  unfold flowMay handled
  cases inB f.1 32 <;> cases inB f.2.1 32 <;> cases f.2.2.1 == 6 <;> cases f.2.2.1 == 17 <;> cases inB f.2.2.2.1 16 <;> rfl
theorem p50 {e : D49} : PureAt cx.P 50 [S49.enc e] S .bool (entryMay e) := by
  refine pure_of ok Try.func50 (T50_eq e) (wp_dcall (p58 _ (f := e.1)) (wp_dcall (p57 _ (n := 8) rfl (by decide)) (wp_dcall (p59 _) (wp_dcall (p24 _) (wp_ret ?_)))))
  unfold entryMay
  cases flowMay e.1 <;> cases inB e.2.1 8 <;> cases phaseMay e.2.2.2.1 <;> rfl
theorem p54 {e : D49} : PureAt cx.P 54 [S49.enc e] S .bool (entryMay e) := by
  refine pure_of ok Try.func54 (T54_eq e) (wp_dcall (p63 _ (f := e.1)) (wp_dcall (p64 _) (wp_dcall (p26 _) (wp_ret ?_))))
  unfold entryMay
  rw [show inB e.2.1 8 = (decide (e.2.1 ≥ 0) && decide (e.2.1 ≤ 255)) from by unfold inB; rw [Bool.eq_iff_iff]; simp; omega]
  cases flowMay e.1 <;> cases decide (e.2.1 ≥ 0) <;> cases decide (e.2.1 ≤ 255) <;> cases phaseMay e.2.2.2.1 <;> rfl
end

def sameFlow (f : D47) (e : D49) : Bool := eqDen S47 e.1 f
def at_ (xs : List D49) (f : D47) : Int := idx (sameFlow f) xs 0

theorem p61 {S : Claim} {e : D49} {p : Addr} {f : D47} (hp : S.at p (S47.flat f)) : PureAt cx.P 61 [S49.enc e, .pointer (some p)] S .bool (sameFlow f e) :=
  pure_of ok Try.func61 (T61_eq e p) (wp_load (r := f) (fun _ => by rw [Claim.and_none]; exact hp) (wp_ret rfl))

theorem p60 {S : Claim} {s : Sl} {xs : List D49} {p : Addr} {f : D47} (hs : Rows S S49 s xs) (hp : S.at p (S47.flat f)) :
    PureAt cx.P 60 [.slice s.a s.len s.cap, .func (.func 61) #[] #[.pointer (some p)]] S (.int .i64) (at_ xs f) := by
  refine pure_of ok Try.func60 (T60_eq s p) ?_
  refine wp_loop (fun (v : Int × Unit) _ _ => ∃ i : Nat, v.1 = i ∧ i ≤ s.len ∧ at_ xs f = idx (sameFlow f) (xs.drop i) i) (fun (v : Int × Unit) _ _ => s.len - v.1.toNat) ⟨0, rfl, Nat.zero_le _, rfl⟩ ?_
  rintro ⟨v, -⟩ G' H' hle hd ⟨i, rfl, hi, he⟩
  have hrow := hs.and hle hd
  have hlen : s.len = xs.length := hs.len
  refine wp_cond (fun hc => ?_) (fun hc => ?_)
  · simp only [decide_eq_true_eq] at hc
    obtain ⟨(x : D49), (hx' : xs[i]? = some x), hat⟩ := hrow.get (j := (i : Int)) (by omega) hc
    refine wp_must (fun _ => ⟨by omega, hc, hrow.some (by omega) hc⟩) (wp_load (r := x) (fun _ => hat) (wp_dcall (p61 (e := x) (Claim.at_and hp hle hd)) ?_))
    rw [drop_cons hx', idx_cons] at he
    have hw := wrap_next hc hs.small
    refine wp_cond (fun hp => wp_pop (wp_ret ?_)) (fun hp => wp_again ⟨⟨i + 1, hw, by omega, ?_⟩, ?_⟩)
    · rw [he, hp]; rfl
    · rw [he, hp]; rfl
    · simp only [hw]; omega
  · simp only [decide_eq_false_iff_not] at hc
    refine wp_pop (wp_ret ?_)
    rw [he, drop_none (by omega)]
    rfl

theorem p51 {S : Claim} {s : Sl} {xs : List D49} {f : D47} (hs : Rows S S49 s xs) : PureAt cx.P 51 [.slice s.a s.len s.cap, S47.enc f] S (.int .i64) (at_ xs f) := by
  refine pure_of ok Try.func51 (T51_eq s f) (wp_new fun n hg hh => ?_)
  exact wp_dcall (p60 (hs.and (Claim.le_refl _) (disj_upd (Claim.disj_none S) hg)) (f := f) (Claim.at_le (Claim.le_and_right _ _) (upd_at _ _ _ _ _))) (wp_ret rfl)

/-- all of them, each with its number -/
def allFrom {α : Type} (p : Nat → α → Bool) : List α → Nat → Bool
  | [], _ => true
  | x :: r, n => p n x && allFrom p r (n + 1)
theorem allFrom_cons {α : Type} (p : Nat → α → Bool) (x : α) (r : List α) (n : Nat) : allFrom p (x :: r) n = (p n x && allFrom p r (n + 1)) := rfl

def isAt (xs : List D49) (i : Nat) (x : D49) : Bool := entryMay x && decide (at_ xs x.1 = (i : Int))
def cacheMay (xs : List D49) : Bool := allFrom (isAt xs) xs 0 && decide (xs.length ≤ 8)

theorem p37 {S : Claim} {s : Sl} {xs : List D49} (hs : Rows S S49 s xs) : PureAt cx.P 37 [.slice s.a s.len s.cap] S .bool (cacheMay xs) := by
  refine pure_of ok Try.func37 (T37_eq s) ?_
  refine wp_loop (fun (v : Int × Unit) _ _ => ∃ i : Nat, v.1 = i ∧ i ≤ s.len ∧ allFrom (isAt xs) xs 0 = allFrom (isAt xs) (xs.drop i) i) (fun (v : Int × Unit) _ _ => s.len - v.1.toNat) ⟨0, rfl, Nat.zero_le _, rfl⟩ ?_
  rintro ⟨v, -⟩ G' H' hle hd ⟨i, rfl, hi, he⟩
  have hrow := hs.and hle hd
  have hlen : s.len = xs.length := hs.len
  refine wp_cond (fun hc => ?_) (fun hc => ?_)
  · simp only [decide_eq_true_eq] at hc
    obtain ⟨(x : D49), (hx' : xs[i]? = some x), hat⟩ := hrow.get (j := (i : Int)) (by omega) hc
    refine wp_must (fun _ => ⟨by omega, hc, hrow.some (by omega) hc⟩) (wp_load (r := x) (fun _ => hat) (wp_dcall (p50 _ (e := x)) (wp_dcall (p51 hrow (f := x.1)) ?_)))
    rw [drop_cons hx', allFrom_cons] at he
    have hw := wrap_next hc hs.small
    have hb : isAt xs i x = !(bif !entryMay x then true else at_ xs x.1 != (i : Int)) := by
      unfold isAt
      cases entryMay x
      · rfl
      · simp only [Bool.true_and, Bool.not_true, cond_false]
        rw [Bool.eq_iff_iff]
        simp
    refine wp_cond (fun hp => wp_pop (wp_ret ?_)) (fun hp => wp_again ⟨⟨i + 1, hw, by omega, ?_⟩, ?_⟩)
    · unfold cacheMay
      rw [he, hb]
      have hp' : (bif !entryMay x then true else at_ xs x.1 != (i : Int)) = true := hp
      rw [hp']
      rfl
    · have hp' : (bif !entryMay x then true else at_ xs x.1 != (i : Int)) = false := hp
      rw [he, hb, hp']
      simp
    · simp only [hw]; omega
  · simp only [decide_eq_false_iff_not] at hc
    refine wp_pop (wp_ret ?_)
    unfold cacheMay
    rw [he, drop_none (by omega)]
    show Value.bool _ = Value.bool (true && _)
    rw [Bool.true_and]
    congr 1
    rw [Bool.eq_iff_iff]
    simp only [decide_eq_true_eq]
    omega

/-! ### the document's own -/

theorem flow_at {S : Claim} {a : Addr} {x : D49} (h : S.at a (S49.flat x)) : S.at (a.add 0) (S47.flat x.1) := by
  rw [Addr.add_zero]
  exact (Claim.at_append (u := S47.flat x.1)).1 h |>.1

def noneBefore (xs : List D49) (i : Nat) (x : D49) : Bool := allFrom (fun _ y => !eqDen S47 y.1 x.1) (xs.take i) 0
def isNew (xs : List D49) (i : Nat) (x : D49) : Bool := entryMay x && noneBefore xs i x

theorem p42' {S : Claim} {s : Sl} {xs : List D49} (hs : Rows S S49 s xs) : PureAt cx.P 42 [.slice s.a s.len s.cap] S .bool (allFrom (isNew xs) xs 0 && decide (xs.length ≤ 8)) := by
  refine pure_of ok Try.func42 (T42_eq s) ?_
  refine wp_loop (fun (v : Int × Unit) _ _ => ∃ i : Nat, v.1 = i ∧ i ≤ s.len ∧ allFrom (isNew xs) xs 0 = allFrom (isNew xs) (xs.drop i) i) (fun (v : Int × Unit) _ _ => s.len - v.1.toNat) ⟨0, rfl, Nat.zero_le _, rfl⟩ ?_
  rintro ⟨v, -⟩ G' H' hle hd ⟨i, rfl, hi, he⟩
  have hrow := hs.and hle hd
  have hlen : s.len = xs.length := hs.len
  refine wp_cond (fun hc => ?_) (fun hc => ?_)
  · simp only [decide_eq_true_eq] at hc
    obtain ⟨(x : D49), (hx' : xs[i]? = some x), hat⟩ := hrow.get (j := (i : Int)) (by omega) hc
    refine wp_must (fun _ => ⟨by omega, hc, hrow.some (by omega) hc⟩) (wp_load (r := x) (fun _ => hat) (wp_dcall (p54 _ (e := x)) ?_))
    rw [drop_cons hx', allFrom_cons] at he
    have hw := wrap_next hc hs.small
    refine wp_cond (fun hp => wp_pop (wp_ret ?_)) (fun hp => ?_)
    · simp only [Bool.not_eq_true'] at hp
      rw [he]; unfold isNew; rw [hp]; rfl
    · simp only [Bool.not_eq_false'] at hp
      refine wp_loop (fun (v : Int × Unit) _ _ => ∃ j : Nat, v.1 = j ∧ j ≤ i ∧ noneBefore xs i x = allFrom (fun _ y => !eqDen S47 y.1 x.1) ((xs.take i).drop j) j) (fun (v : Int × Unit) _ _ => i - v.1.toNat) ⟨0, rfl, Nat.zero_le _, rfl⟩ ?_
      rintro ⟨v, -⟩ G2 H2 hle2 hd2 ⟨j, rfl, hj, he2⟩
      have hrow2 := hs.and (Claim.le_trans hle hle2) hd2
      refine wp_cond (fun hc2 => ?_) (fun hc2 => ?_)
      · simp only [decide_eq_true_eq] at hc2
        have hjl : (j : Int) < (s.len : Int) := by omega
        obtain ⟨(y : D49), (hy : xs[j]? = some y), hat2⟩ := hrow2.get (j := (j : Int)) (by omega) hjl
        obtain ⟨(x2 : D49), (hx2 : xs[i]? = some x2), hat3⟩ := hrow2.get (j := (i : Int)) (by omega) hc
        have e2 : x2 = x := by rw [hx'] at hx2; exact (Option.some.inj hx2).symm
        subst e2
        have hy2 : (xs.take i)[j]? = some y := by rw [List.getElem?_take]; rw [if_pos (by omega)]; exact hy
        rw [drop_cons hy2, allFrom_cons] at he2
        have hw2 := wrap_next hjl hs.small
        refine wp_must (fun _ => ⟨by omega, hjl, hrow2.some (by omega) hjl⟩) (wp_load (r := y.1) (fun _ => flow_at hat2) (wp_must (fun _ => ⟨by omega, hc, hrow2.some (by omega) hc⟩) (wp_load (r := x2.1) (fun _ => flow_at hat3) ?_)))
        refine wp_cond (fun hq => wp_pop (wp_pop (wp_ret ?_))) (fun hq => wp_again ⟨⟨j + 1, hw2, by omega, ?_⟩, ?_⟩)
        · have hq' : eqDen S47 y.1 x2.1 = true := hq
          rw [he]; unfold isNew; rw [he2, hq', hp]; rfl
        · have hq' : eqDen S47 y.1 x2.1 = false := hq
          rw [he2, hq']; rfl
        · simp only [hw2]; omega
      · simp only [decide_eq_false_iff_not] at hc2
        refine wp_pop (wp_again ⟨⟨i + 1, hw, by omega, ?_⟩, ?_⟩)
        · rw [drop_none (by rw [List.length_take]; omega)] at he2
          rw [he]; unfold isNew; rw [he2, hp]; rfl
        · simp only [hw]; omega
  · simp only [decide_eq_false_iff_not] at hc
    refine wp_pop (wp_ret ?_)
    rw [he, drop_none (by omega)]
    show Value.bool _ = Value.bool (true && _)
    rw [Bool.true_and]
    congr 1
    rw [Bool.eq_iff_iff]
    simp only [decide_eq_true_eq]
    omega

theorem p10 {S : Claim} {x : Int} : PureAt cx.P 10 [.int .i64 x] S (.int .i64) x := pure_of ok Try.func10 (T10_eq x) (wp_ret rfl)

theorem flow_refl (f : D47) : eqDen S47 f f = true := (eqDen_iff (s := S47) (by decide)).2 rfl

/-- the first of its kind, or not -/
theorem idx_first {p : D49 → Bool} : ∀ {xs : List D49} {i : Nat} {x : D49} (n m : Nat), xs[i]? = some x → p x = true → (idx p xs n = ((n + i : Nat) : Int) ↔ allFrom (fun _ y => !p y) (xs.take i) m = true)
  | [], i, x, n, m, h, hp => by simp at h
  | y :: ys, 0, x, n, m, h, hp => by
    have : y = x := by simpa using h
    subst this
    rw [idx_cons, hp]
    simp [allFrom]
  | y :: ys, i + 1, x, n, m, h, hp => by
    rw [idx_cons, List.take_succ_cons, allFrom_cons]
    have ih := idx_first (xs := ys) (n + 1) (m + 1) (by simpa using h) hp
    cases hy : p y
    · simp only [cond_false, Bool.not_false, Bool.true_and]
      rw [show n + (i + 1) = n + 1 + i from by omega]
      exact ih
    · simp only [cond_true, Bool.not_true, Bool.false_and, Bool.false_eq_true, iff_false]
      omega

theorem allFrom_congr {p q : Nat → D49 → Bool} : ∀ {xs : List D49} {n : Nat}, (∀ i x, xs[i]? = some x → p (n + i) x = q (n + i) x) → allFrom p xs n = allFrom q xs n
  | [], n, h => rfl
  | x :: xs, n, h => by
    rw [allFrom_cons, allFrom_cons]
    have h0 := h 0 x (by simp)
    rw [Nat.add_zero] at h0
    rw [h0, allFrom_congr (xs := xs) (n := n + 1) fun i y hy => ?_]
    have := h (i + 1) y (by simpa using hy)
    rwa [show n + (i + 1) = n + 1 + i from by omega] at this

theorem new_is_at (xs : List D49) : allFrom (isNew xs) xs 0 = allFrom (isAt xs) xs 0 := by
  refine allFrom_congr fun i x hx => ?_
  rw [Nat.zero_add]
  unfold isNew isAt noneBefore
  cases entryMay x
  · rfl
  · rw [Bool.true_and, Bool.true_and]
    have := idx_first (p := sameFlow x.1) (n := 0) (m := 0) hx (flow_refl x.1)
    rw [Nat.zero_add] at this
    rw [Bool.eq_iff_iff, decide_eq_true_eq]
    exact this.symm

theorem p42 {S : Claim} {s : Sl} {xs : List D49} (hs : Rows S S49 s xs) : PureAt cx.P 42 [.slice s.a s.len s.cap] S .bool (cacheMay xs) := by
  unfold cacheMay
  rw [← new_is_at]
  exact p42' hs

end Go.Ev.Spare
