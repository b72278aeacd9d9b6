/- The document's Find. -/
import Derived.Test.YtcneiffdekbmnaacRef2
namespace Go.Ev.Cache
open Go Go.Ev Go.Proofs

theorem allFrom_get {p : Nat → D25 → Bool} : ∀ {xs : List D25} {n : Nat}, allFrom p xs n = true → ∀ i x, xs[i]? = some x → p (n + i) x = true
  | [], n, h, i, x, e => by simp at e
  | y :: ys, n, h, i, x, e => by
    rw [allFrom_cons, Bool.and_eq_true] at h
    cases i with
    | zero => simp at e; subst e; exact h.1
    | succ i =>
      have := allFrom_get h.2 i x (by simpa using e)
      rwa [show n + 1 + i = n + (i + 1) from by omega] at this

theorem may_once {xs : List D25} (h : cacheMay xs = true) {i j : Nat} {x y : D25} (hx : xs[i]? = some x) (hy : xs[j]? = some y) (e : x.1 = y.1) : x = y := by
  unfold cacheMay at h
  rw [Bool.and_eq_true] at h
  have h1 := allFrom_get h.1 i x hx
  have h2 := allFrom_get h.1 j y hy
  unfold isAt at h1 h2
  simp only [Bool.and_eq_true, decide_eq_true_eq, Nat.zero_add] at h1 h2
  have : (i : Int) = (j : Int) := by rw [← h1.2, ← h2.2, e]
  have hij : i = j := by omega
  subst hij
  rw [hx] at hy
  exact Option.some.inj hy

theorem find_here {xs : List D25} {f : D23} {now : Int} (h : cacheMay xs = true) {i : Nat} {x : D25} (hx : xs[i]? = some x) (hf : sameFlow f x = true) (hr : ran x now = false) : find xs f now = (x, true) := by
  unfold find
  cases hfd : xs.find? (sameFlow f) with
  | none => exact absurd hf (by have := List.find?_eq_none.1 hfd x (List.mem_of_getElem? hx); simpa using this)
  | some y =>
    have hy1 := List.find?_some hfd
    obtain ⟨j, hj⟩ := List.getElem?_of_mem (List.mem_of_find?_eq_some hfd)
    have e : x.1 = y.1 := by
      rw [(eqDen_iff (s := S23) (by decide) (a := x.1) (b := f)).1 hf, (eqDen_iff (s := S23) (by decide) (a := y.1) (b := f)).1 hy1]
    have := may_once h hx hj e
    subst this
    simp only [h, hr]
    rfl

theorem find_not {xs : List D25} {f : D23} {now : Int} (h : ∀ x ∈ xs, sameFlow f x = true → ran x now = true) : find xs f now = (zeroE, false) := by
  unfold find
  cases hfd : xs.find? (sameFlow f) with
  | none => rfl
  | some y =>
    have := h y (List.mem_of_find?_eq_some hfd) (List.find?_some hfd)
    simp [this]
theorem find_no {xs : List D25} {f : D23} {now : Int} (h : cacheMay xs = false) : find xs f now = (zeroE, false) := by
  unfold find
  cases xs.find? (sameFlow f) <;> simp [h]

theorem p8 {S : Claim} {s : Sl} {xs : List D25} {f : D23} {now : Int} (hs : Rows S S25 s xs) (h1 : now < 9223372036854775808) (h2 : -9223372036854775808 ≤ now) :
    PureAt cx.P 8 [.slice s.a s.len s.cap, S23.enc f, .int .i64 now] S (.tup (.pair S25 .bool)) (find xs f now) := by
  have l1 : s.len = xs.length := hs.len
  refine pure_of ok Try.func8 (T8_eq s f now) ?_
  refine wp_loop (fun (v : Int × D25 × Unit) _ _ => ∃ i : Nat, v.1 = i ∧ i ≤ s.len ∧ ∀ j x, j < i → xs[j]? = some x → sameFlow f x = true → ran x now = true) (fun (v : Int × D25 × Unit) _ _ => s.len - v.1.toNat) ⟨0, rfl, Nat.zero_le _, fun j x h => by omega⟩ ?_
  rintro ⟨v, z, u⟩ G' H' hle hd ⟨i, rfl, hi, he⟩
  dsimp only
  have hrow := hs.and hle hd
  refine wp_dcall (p16 hrow) (wp_cond (fun hc => ?_) (fun hc => ?_))
  · have hc1 : (i : Int) < (s.len : Int) := by
      by_cases h : (i : Int) < (s.len : Int)
      · exact h
      · simp [h] at hc
    have hm : cacheMay xs = true := by simpa [hc1] using hc
    obtain ⟨(x : D25), (hx : xs[i]? = some x), hat⟩ := hrow.get (j := (i : Int)) (by omega) hc1
    have hw := wrap_next hc1 hs.small
    refine wp_must (fun _ => ⟨by omega, hc1, hrow.some (by omega) hc1⟩) (wp_load (r := x.1) (fun _ => flow_at hat) (wp_must (fun _ => ⟨by omega, hc1, hrow.some (by omega) hc1⟩) (wp_load (r := x) (fun _ => hat) (wp_dcall (p28 _ (e := x) h1 h2) ?_))))
    refine wp_cond (fun hq => ?_) (fun hq => wp_again ⟨⟨i + 1, hw, by omega, ?_⟩, ?_⟩)
    · have hq' : (bif sameFlow f x then !ran x now else false) = true := hq
      have hf : sameFlow f x = true := by cases h : sameFlow f x <;> simp_all
      have hr : ran x now = false := by simpa [hf] using hq'
      refine wp_must (fun _ => ⟨by omega, hc1, hrow.some (by omega) hc1⟩) (wp_load (r := x) (fun _ => hat) (wp_pop (wp_ret ?_)))
      rw [find_here hm hx hf hr]
      rfl
    · have hq' : (bif sameFlow f x then !ran x now else false) = false := hq
      intro j y hj hy hfy
      rcases Nat.lt_or_eq_of_le (Nat.le_of_lt_succ hj) with h | rfl
      · exact he j y h hy hfy
      · rw [hx] at hy
        cases hy
        simpa [hfy] using hq'
    · simp only [hw]; omega
  · refine wp_pop (wp_ret ?_)
    have : find xs f now = (zeroE, false) := by
      cases hm : cacheMay xs
      · exact find_no hm
      · refine find_not fun x hx hf => ?_
        obtain ⟨j, hj⟩ := List.getElem?_of_mem hx
        have hjl := (List.getElem?_eq_some_iff.1 hj).1
        have hn : ¬ (i : Int) < (s.len : Int) := by
          intro h
          simp [h, hm] at hc
        exact he j x (by omega) hj hf
    rw [this]
    rfl
end Go.Ev.Cache
