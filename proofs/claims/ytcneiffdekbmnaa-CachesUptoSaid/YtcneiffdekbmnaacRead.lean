/- The parts of this seat that read rows. -/
import Derived.Test.YtcneiffdekbmnaacPure
namespace Go.Ev.Cache
open Go Go.Ev Go.Proofs

def sameFlow (f : D23) (e : D25) : Bool := eqDen S23 e.1 f
def at_ (xs : List D25) (f : D23) : Int := idx (sameFlow f) xs 0

theorem p40 {S : Claim} {e : D25} {p : Addr} {f : D23} (hp : S.at p (S23.flat f)) : PureAt cx.P 40 [S25.enc e, .pointer (some p)] S .bool (sameFlow f e) :=
  pure_of ok Try.func40 (T40_eq e p) (wp_load (r := f) (fun _ => by rw [Claim.and_none]; exact hp) (wp_ret rfl))

theorem p39 {S : Claim} {s : Sl} {xs : List D25} {p : Addr} {f : D23} (hs : Rows S S25 s xs) (hp : S.at p (S23.flat f)) :
    PureAt cx.P 39 [.slice s.a s.len s.cap, .func (.func 40) #[] #[.pointer (some p)]] S (.int .i64) (at_ xs f) := by
  refine pure_of ok Try.func39 (T39_eq s p) ?_
  refine wp_loop (fun (v : Int × Unit) _ _ => ∃ i : Nat, v.1 = i ∧ i ≤ s.len ∧ at_ xs f = idx (sameFlow f) (xs.drop i) i) (fun (v : Int × Unit) _ _ => s.len - v.1.toNat) ⟨0, rfl, Nat.zero_le _, rfl⟩ ?_
  rintro ⟨v, -⟩ G' H' hle hd ⟨i, rfl, hi, he⟩
  have hrow := hs.and hle hd
  have hlen : s.len = xs.length := hs.len
  refine wp_cond (fun hc => ?_) (fun hc => ?_)
  · simp only [decide_eq_true_eq] at hc
    obtain ⟨(x : D25), (hx' : xs[i]? = some x), hat⟩ := hrow.get (j := (i : Int)) (by omega) hc
    refine wp_must (fun _ => ⟨by omega, hc, hrow.some (by omega) hc⟩) (wp_load (r := x) (fun _ => hat) (wp_dcall (p40 (e := x) (Claim.at_and hp hle hd)) ?_))
    rw [drop_cons hx', idx_cons] at he
    have hw := wrap_next hc hs.small
    refine wp_cond (fun hp => wp_pop (wp_ret ?_)) (fun hp => wp_again ⟨⟨i + 1, hw, by omega, ?_⟩, ?_⟩)
    · rw [he, hp]; rfl
    · rw [he, hp]; rfl
    · simp only [hw]; omega
  · simp only [decide_eq_false_iff_not] at hc
    refine wp_pop (wp_ret ?_)
    rw [he, drop_none (by omega)]
    rfl

theorem p26 {S : Claim} {s : Sl} {xs : List D25} {f : D23} (hs : Rows S S25 s xs) : PureAt cx.P 26 [.slice s.a s.len s.cap, S23.enc f] S (.int .i64) (at_ xs f) := by
  refine pure_of ok Try.func26 (T26_eq s f) (wp_new fun n hg hh => ?_)
  exact wp_dcall (p39 (hs.and (Claim.le_refl _) (disj_upd (Claim.disj_none S) hg)) (f := f) (Claim.at_le (Claim.le_and_right _ _) (upd_at _ _ _ _ _))) (wp_ret rfl)

/-- all of them, each with its number -/
def allFrom {α : Type} (p : Nat → α → Bool) : List α → Nat → Bool
  | [], _ => true
  | x :: r, n => p n x && allFrom p r (n + 1)
theorem allFrom_cons {α : Type} (p : Nat → α → Bool) (x : α) (r : List α) (n : Nat) : allFrom p (x :: r) n = (p n x && allFrom p r (n + 1)) := rfl

def isAt (xs : List D25) (i : Nat) (x : D25) : Bool := entryMay x && decide (at_ xs x.1 = (i : Int))
def cacheMay (xs : List D25) : Bool := allFrom (isAt xs) xs 0 && decide (xs.length ≤ 8)

theorem p15 {S : Claim} {s : Sl} {xs : List D25} (hs : Rows S S25 s xs) : PureAt cx.P 15 [.slice s.a s.len s.cap] S .bool (cacheMay xs) := by
  refine pure_of ok Try.func15 (T15_eq s) ?_
  refine wp_loop (fun (v : Int × Unit) _ _ => ∃ i : Nat, v.1 = i ∧ i ≤ s.len ∧ allFrom (isAt xs) xs 0 = allFrom (isAt xs) (xs.drop i) i) (fun (v : Int × Unit) _ _ => s.len - v.1.toNat) ⟨0, rfl, Nat.zero_le _, rfl⟩ ?_
  rintro ⟨v, -⟩ G' H' hle hd ⟨i, rfl, hi, he⟩
  have hrow := hs.and hle hd
  have hlen : s.len = xs.length := hs.len
  refine wp_cond (fun hc => ?_) (fun hc => ?_)
  · simp only [decide_eq_true_eq] at hc
    obtain ⟨(x : D25), (hx' : xs[i]? = some x), hat⟩ := hrow.get (j := (i : Int)) (by omega) hc
    refine wp_must (fun _ => ⟨by omega, hc, hrow.some (by omega) hc⟩) (wp_load (r := x) (fun _ => hat) (wp_dcall (p21 _ (e := x)) (wp_dcall (p26 hrow (f := x.1)) ?_)))
    rw [drop_cons hx', allFrom_cons] at he
    have hw := wrap_next hc hs.small
    have hb : isAt xs i x = !(bif !entryMay x then true else at_ xs x.1 != (i : Int)) := by
      unfold isAt
      cases entryMay x
      · rfl
      · simp only [Bool.true_and, Bool.not_true, cond_false]
        rw [Bool.eq_iff_iff]
        simp
    refine wp_cond (fun hp => wp_pop (wp_ret ?_)) (fun hp => wp_again ⟨⟨i + 1, hw, by omega, ?_⟩, ?_⟩)
    · unfold cacheMay
      rw [he, hb]
      have hp' : (bif !entryMay x then true else at_ xs x.1 != (i : Int)) = true := hp
      rw [hp']
      rfl
    · have hp' : (bif !entryMay x then true else at_ xs x.1 != (i : Int)) = false := hp
      rw [he, hb, hp']
      simp
    · simp only [hw]; omega
  · simp only [decide_eq_false_iff_not] at hc
    refine wp_pop (wp_ret ?_)
    unfold cacheMay
    rw [he, drop_none (by omega)]
    show Value.bool _ = Value.bool (true && _)
    rw [Bool.true_and]
    congr 1
    rw [Bool.eq_iff_iff]
    simp only [decide_eq_true_eq]
    omega

/-! ### the document's own -/

theorem flow_at {S : Claim} {a : Addr} {x : D25} (h : S.at a (S25.flat x)) : S.at (a.add 0) (S23.flat x.1) := by
  rw [Addr.add_zero]
  exact (Claim.at_append (u := S23.flat x.1)).1 h |>.1

def noneBefore (xs : List D25) (i : Nat) (x : D25) : Bool := allFrom (fun _ y => !eqDen S23 y.1 x.1) (xs.take i) 0
def isNew (xs : List D25) (i : Nat) (x : D25) : Bool := entryMay x && noneBefore xs i x

theorem p16' {S : Claim} {s : Sl} {xs : List D25} (hs : Rows S S25 s xs) : PureAt cx.P 16 [.slice s.a s.len s.cap] S .bool (allFrom (isNew xs) xs 0 && decide (xs.length ≤ 8)) := by
  refine pure_of ok Try.func16 (T16_eq s) ?_
  refine wp_loop (fun (v : Int × Unit) _ _ => ∃ i : Nat, v.1 = i ∧ i ≤ s.len ∧ allFrom (isNew xs) xs 0 = allFrom (isNew xs) (xs.drop i) i) (fun (v : Int × Unit) _ _ => s.len - v.1.toNat) ⟨0, rfl, Nat.zero_le _, rfl⟩ ?_
  rintro ⟨v, -⟩ G' H' hle hd ⟨i, rfl, hi, he⟩
  have hrow := hs.and hle hd
  have hlen : s.len = xs.length := hs.len
  refine wp_cond (fun hc => ?_) (fun hc => ?_)
  · simp only [decide_eq_true_eq] at hc
    obtain ⟨(x : D25), (hx' : xs[i]? = some x), hat⟩ := hrow.get (j := (i : Int)) (by omega) hc
    refine wp_must (fun _ => ⟨by omega, hc, hrow.some (by omega) hc⟩) (wp_load (r := x) (fun _ => hat) (wp_dcall (p24 _ (e := x)) ?_))
    rw [drop_cons hx', allFrom_cons] at he
    have hw := wrap_next hc hs.small
    refine wp_cond (fun hp => wp_pop (wp_ret ?_)) (fun hp => ?_)
    · simp only [Bool.not_eq_true'] at hp
      rw [he]; unfold isNew; rw [hp]; rfl
    · simp only [Bool.not_eq_false'] at hp
      refine wp_loop (fun (v : Int × Unit) _ _ => ∃ j : Nat, v.1 = j ∧ j ≤ i ∧ noneBefore xs i x = allFrom (fun _ y => !eqDen S23 y.1 x.1) ((xs.take i).drop j) j) (fun (v : Int × Unit) _ _ => i - v.1.toNat) ⟨0, rfl, Nat.zero_le _, rfl⟩ ?_
      rintro ⟨v, -⟩ G2 H2 hle2 hd2 ⟨j, rfl, hj, he2⟩
      have hrow2 := hs.and (Claim.le_trans hle hle2) hd2
      refine wp_cond (fun hc2 => ?_) (fun hc2 => ?_)
      · simp only [decide_eq_true_eq] at hc2
        have hjl : (j : Int) < (s.len : Int) := by omega
        obtain ⟨(y : D25), (hy : xs[j]? = some y), hat2⟩ := hrow2.get (j := (j : Int)) (by omega) hjl
        obtain ⟨(x2 : D25), (hx2 : xs[i]? = some x2), hat3⟩ := hrow2.get (j := (i : Int)) (by omega) hc
        have e2 : x2 = x := by rw [hx'] at hx2; exact (Option.some.inj hx2).symm
        subst e2
        have hy2 : (xs.take i)[j]? = some y := by rw [List.getElem?_take]; rw [if_pos (by omega)]; exact hy
        rw [drop_cons hy2, allFrom_cons] at he2
        have hw2 := wrap_next hjl hs.small
        refine wp_must (fun _ => ⟨by omega, hjl, hrow2.some (by omega) hjl⟩) (wp_load (r := y.1) (fun _ => flow_at hat2) (wp_must (fun _ => ⟨by omega, hc, hrow2.some (by omega) hc⟩) (wp_load (r := x2.1) (fun _ => flow_at hat3) ?_)))
        refine wp_cond (fun hq => wp_pop (wp_pop (wp_ret ?_))) (fun hq => wp_again ⟨⟨j + 1, hw2, by omega, ?_⟩, ?_⟩)
        · have hq' : eqDen S23 y.1 x2.1 = true := hq
          rw [he]; unfold isNew; rw [he2, hq', hp]; rfl
        · have hq' : eqDen S23 y.1 x2.1 = false := hq
          rw [he2, hq']; rfl
        · simp only [hw2]; omega
      · simp only [decide_eq_false_iff_not] at hc2
        refine wp_pop (wp_again ⟨⟨i + 1, hw, by omega, ?_⟩, ?_⟩)
        · rw [drop_none (by rw [List.length_take]; omega)] at he2
          rw [he]; unfold isNew; rw [he2, hp]; rfl
        · simp only [hw]; omega
  · simp only [decide_eq_false_iff_not] at hc
    refine wp_pop (wp_ret ?_)
    rw [he, drop_none (by omega)]
    show Value.bool _ = Value.bool (true && _)
    rw [Bool.true_and]
    congr 1
    rw [Bool.eq_iff_iff]
    simp only [decide_eq_true_eq]
    omega

theorem p14 {S : Claim} {x : Int} : PureAt cx.P 14 [.int .i64 x] S (.int .i64) x := pure_of ok Try.func14 (T14_eq x) (wp_ret rfl)
end Go.Ev.Cache
