/- Rows of texts compared and spoiled; the document's net. -/
import Derived.Test.YtbnlfcdnjnimmaanRow
namespace Go.Ev.Nets
open Go Go.Ev Go.Proofs

def same (xs ys : Texts) : Bool := decide (xs = ys)
theorem same_self (xs : Texts) : same xs xs = true := by simp [same]

theorem p16 {S : Claim} {s t : Sl} {xs ys : Texts} (hs : Rows S .str s xs) (ht : Rows S .str t ys) : PureAt cx.P 16 [.slice s.a s.len s.cap, .slice t.a t.len t.cap] S .bool (same xs ys) := by
  have l1 : s.len = xs.length := hs.len
  have l2 : t.len = ys.length := ht.len
  refine pure_of ok Try.func16 (T16_eq s t) (wp_cond (fun hc => wp_ret ?_) (fun hc => ?_))
  · have hne : ¬ xs = ys := by
      rintro rfl
      rw [l1, l2] at hc
      simp at hc
    unfold same
    rw [decide_eq_false hne]
    rfl
  · have hll : xs.length = ys.length := by
      simp only [bne_eq_false_iff_eq] at hc
      omega
    refine wp_loop (fun (v : Int × Unit) _ _ => ∃ i : Nat, v.1 = i ∧ i ≤ s.len ∧ xs.take i = ys.take i) (fun (v : Int × Unit) _ _ => s.len - v.1.toNat) ⟨0, rfl, Nat.zero_le _, by simp⟩ ?_
    rintro ⟨v, u⟩ G' H' hle hd ⟨i, rfl, hi, he⟩
    dsimp only
    have hrow := hs.and hle hd
    have hrow2 := ht.and hle hd
    refine wp_cond (fun hc => ?_) (fun hc => ?_)
    · simp only [decide_eq_true_eq] at hc
      have hc2 : (i : Int) < (t.len : Int) := by omega
      obtain ⟨(x : ByteArray), (hx : xs[i]? = some x), hat⟩ := hrow.get (j := (i : Int)) (by omega) hc
      obtain ⟨(y : ByteArray), (hy : ys[i]? = some y), hat2⟩ := hrow2.get (j := (i : Int)) (by omega) hc2
      have hw := wrap_next hc hs.small
      refine wp_must (fun _ => ⟨by omega, hc, hrow.some (by omega) hc⟩) (wp_load (r := x) (fun _ => hat) (wp_must (fun _ => ⟨by omega, hc2, hrow2.some (by omega) hc2⟩) (wp_load (r := y) (fun _ => hat2) ?_)))
      refine wp_cond (fun hq => wp_pop (wp_ret ?_)) (fun hq => wp_again ⟨⟨i + 1, hw, by omega, ?_⟩, ?_⟩)
      · rw [toList_beq] at hq
        have hne : ¬ xs = ys := by
          rintro rfl
          rw [hx] at hy
          cases hy
          rw [beq_self] at hq
          cases hq
        unfold same
        rw [decide_eq_false hne]
        rfl
      · rw [toList_beq] at hq
        have hxy : x = y := (bytes_beq x y).1 (by simpa using hq)
        rw [List.take_add_one, List.take_add_one, he, hx, hy, hxy]
      · simp only [hw]; omega
    · simp only [decide_eq_false_iff_not] at hc
      refine wp_pop (wp_ret ?_)
      have e1 : xs = ys := by
        rw [List.take_of_length_le (by omega), List.take_of_length_le (by omega)] at he
        exact he
      unfold same
      rw [decide_eq_true e1]
      rfl

theorem str_flat : ∀ xs : Texts, xs.flatMap Sh.str.flat = xs.map Value.string
  | [] => rfl
  | y :: ys => by
    show Value.string y :: ys.flatMap Sh.str.flat = Value.string y :: ys.map Value.string
    exact congrArg _ (str_flat ys)
theorem flat_get {xs : Texts} {k : Nat} {x : ByteArray} (h : xs[k]? = some x) : (xs.map Value.string)[k]? = some (.string x) := by
  rw [List.getElem?_map, h]; rfl

theorem c17 {G H : Claim} {s : Sl} {xs : Texts} (hs : Mine H 9 .str s xs) (hsz : ∀ x ∈ xs, x.size ≤ 1048576) :
    CallAt cx.P 17 [.slice s.a s.len s.cap] G H (.tup .unit) (fun _ _ _ => True) := by
  have l1 : s.len = xs.length := hs.len (by decide)
  have hsm := (hs.rows (by decide)).small
  refine call_of ok Try.func17 (T17_eq s) ?_
  obtain ⟨hm1, hm2⟩ := hs
  rcases hm2 with ⟨z1, _⟩ | ⟨g, cur, e1, e2, e3, e4, e5, e6⟩
  · refine wp_loop (fun (v : Int × Unit) _ _ => v.1 = 0) (fun _ _ _ => 0) rfl ?_
    rintro ⟨v, u⟩ G' H' hle hdd rfl
    dsimp only
    refine wp_cond (fun hc => ?_) (fun hc => wp_pop (wp_ret ⟨(), rfl, trivial⟩))
    simp [z1] at hc
  · have e5' : cur.size = s.cap := by rw [e5]; exact Nat.mul_one _
    refine wp_loop (fun (v : Int × Unit) _ H' => ∃ (i : Nat) (c : Array Value), v.1 = i ∧ i ≤ s.len ∧ H' g = some (.cells c 9 (0, 0)) ∧ c.size = s.cap ∧ ∀ k x, i ≤ k → xs[k]? = some x → c[k]? = some (.string x)) (fun (v : Int × Unit) _ _ => s.len - v.1.toNat)
      ⟨0, cur, rfl, Nat.zero_le _, e2, e5', fun k x _ hx => ?_⟩ ?_
    · have h := flat_get hx
      have e6' : cur.toList.take (s.len * 1) = xs.map Value.string := Eq.trans e6 (str_flat xs)
      rw [← e6', List.getElem?_take] at h
      split at h
      · simpa using h
      · cases h
    rintro ⟨v, u⟩ G' H' hle hdd ⟨i, c, rfl, hi, f1, f2, f3⟩
    dsimp only
    refine wp_cond (fun hc => ?_) (fun hc => wp_pop (wp_ret ⟨(), rfl, trivial⟩))
    simp only [decide_eq_true_eq] at hc
    have hil : i < xs.length := by omega
    obtain ⟨x, hx⟩ : ∃ x, xs[i]? = some x := ⟨xs[i], by simp [hil]⟩
    have hxs := hsz x (List.mem_of_getElem? hx)
    have hw := wrap_next hc hsm
    have ea : ((s.a.getD ⟨0, 0, none⟩).add ((i : Int).toNat * 1)) = ⟨g, i, none⟩ := by
      rw [e1]
      show (⟨g, 0, none⟩ : Addr).add (i * 1) = _
      rw [Addr.add_mk, Nat.zero_add, Nat.mul_one]
    have hsome : s.a.isSome = true := by rw [e1]; rfl
    refine wp_must (fun _ => ⟨by omega, hc, hsome⟩) (wp_load (r := x) (fun _ => ?_) (wp_must (fun _ => ?_) (wp_must (fun _ => ⟨by omega, hc, hsome⟩) (wp_store_at (n := g) (off := i) ea f1 ?_ (wp_again ⟨⟨i + 1, _, hw, by omega, Claim.upd_same _ _ _, ?_, fun k y hk hy => ?_⟩, ?_⟩)))))
    · rw [ea]
      refine Claim.at_le (Claim.le_and_right _ _) ?_
      have := at_field (o := i) (k := 0) f1 (f3 i x (Nat.le_refl _) hx)
      rwa [Addr.add_zero] at this
    · show 1 + ByteArray.size x ≤ _
      omega
    · show i + 1 ≤ c.size
      omega
    · show (_ : Array Value).size = _
      simp only [List.size_toArray, List.length_append, List.length_take, List.length_drop, Array.length_toList, List.length_cons, List.length_nil]
      omega
    · rw [List.getElem?_toArray]
      have := f3 k y (by omega) hy
      rw [List.getElem?_append_right (by simp only [List.length_append, List.length_take, Array.length_toList, List.length_cons, List.length_nil]; omega)]
      rw [List.getElem?_drop]
      rw [← this, ← Array.getElem?_toList]
      congr 1
      simp only [List.length_append, List.length_take, Array.length_toList, List.length_cons, List.length_nil]
      omega
    · simp only [hw]; omega

/-- the document's net, in memory -/
def RefIs (H : Claim) (p : Option Addr) (xs : Texts) : Prop :=
  ∃ (n : Nat) (s : Sl), p = some ⟨n, 0, none⟩ ∧ H n = some (.cells #[.slice s.a s.len s.cap] 28 (0, 0)) ∧ ¬ s.in n ∧ Mine H 9 .str s xs

theorem RefIs.le {H H' : Claim} {p : Option Addr} {xs : Texts} (h : RefIs H p xs) (k : H.le H') : RefIs H' p xs := by
  obtain ⟨n, s, h1, h2, h3, h4⟩ := h
  exact ⟨n, s, h1, k _ _ h2, h3, h4.le k⟩

theorem bad_iff (x : ByteArray) : (bif x.toList == (⟨#[]⟩ : ByteArray).toList then true else decide ((x.size : Int) > 512)) = bad x := by
  rw [toList_beq, beq_nil]
  unfold bad
  cases decide (x.size = 0) <;> simp
  omega

theorem c10 {G H : Claim} {p : Option Addr} {xs : Texts} {x : ByteArray} (h : RefIs H p xs) (hb : xs.length ≤ 32) :
    CallAt cx.P 10 [.pointer p, .string x] G H (.int .i64) (fun r _ H' => r = (send xs x).1 ∧ RefIs H' p (send xs x).2) := by
  have h0 := h
  obtain ⟨n, s, rfl, h2, h3, h4⟩ := h
  have hl : s.len = xs.length := h4.len (by decide)
  refine call_of ok Try.func10 (T10_eq _ x) (wp_cond (fun hc => ?_) (fun hc => ?_))
  · rw [bad_iff] at hc
    exact wp_ret ⟨(2200 : Int), rfl, by unfold send; rw [if_pos hc], by unfold send; rw [if_pos hc]; exact h0⟩
  · rw [bad_iff] at hc
    have hat := Claim.at_le (Claim.le_and_right G H) (at_field (o := 0) (k := 0) (v := .slice s.a s.len s.cap) h2 rfl)
    have es : send xs x = add xs x := by unfold send; rw [if_neg (by simp [hc])]
    rw [es]
    unfold add
    refine wp_must (fun _ => rfl) (wp_load (r := s) (fun _ => hat) (wp_cond (fun hq => ?_) (fun hq => ?_)))
    · have hge : ¬ xs.length < 32 := by simp only [decide_eq_true_eq] at hq; omega
      rw [if_neg hge]
      exact wp_ret ⟨(2201 : Int), rfl, rfl, h0⟩
    · have hlt : xs.length < 32 := by simp only [decide_eq_false_iff_not] at hq; omega
      rw [if_pos hlt]
      refine wp_must (fun _ => rfl) (wp_load (r := s) (fun _ => hat) ?_)
      refine wp_push (sh := .str) (x := x) (xs := xs) rfl rfl h4 (show xs.length + 1 ≤ maxLen by simp only [maxLen]; omega) (show (xs.length + 1) * 16 ≤ 140737488355328 by omega) (by decide) (Claim.none_le _) (Claim.none_le _) (New.any _) ?_
      intro G' q H' g m1 m2 m3 m4 m5 m6
      obtain ⟨e1, e2⟩ := m5 n h3 (by rw [h2]; simp)
      exact wp_must (fun _ => rfl) (wp_store_at (n := n) (off := 0) rfl (e1.trans h2) (by show 0 + 1 ≤ 1; decide) (wp_ret ⟨(0 : Int), rfl, rfl, n, q, rfl, Claim.upd_same _ _ _, e2, Mine.upd m1 e2⟩))

theorem guard_has {xs : Texts} {i : Int} {n : Nat} (h : n = xs.length) : (bif decide (i < 0) then true else decide (i ≥ (n : Int))) = !hasAt xs i := by
  subst h
  unfold hasAt
  by_cases h1 : i < 0
  · have : ¬ 0 ≤ i := by omega
    simp [h1, this]
  · have h2 : 0 ≤ i := by omega
    rw [decide_eq_false h1, decide_eq_true h2, cond_false, Bool.true_and, Bool.eq_iff_iff]
    simp

theorem c14 {G H : Claim} {p : Option Addr} {xs : Texts} {i : Int} (h : RefIs H p xs) (hb : xs.length ≤ 32) (hgood : ∀ x ∈ xs, bad x = false) :
    CallAt cx.P 14 [.pointer p, .int .i64 i] G H (.int .i64) (fun r _ H' => r = (copy xs i).1 ∧ RefIs H' p (copy xs i).2) := by
  have h0 := h
  obtain ⟨n, s, rfl, h2, h3, h4⟩ := h
  have hl : s.len = xs.length := h4.len (by decide)
  have hat := Claim.at_le (Claim.le_and_right G H) (at_field (o := 0) (k := 0) (v := .slice s.a s.len s.cap) h2 rfl)
  refine call_of ok Try.func14 (T14_eq _ i) (wp_must (fun _ => rfl) (wp_load (r := s) (fun _ => hat) ?_))
  rw [guard_has hl]
  unfold copy
  cases hh : hasAt xs i with
  | false => exact wp_cond (fun _ => wp_ret ⟨(2202 : Int), rfl, rfl, h0⟩) (fun h => by cases h)
  | true =>
    obtain ⟨k, rfl, hk⟩ := hasAt_iff hh
    have hrow : Rows (G.and H) .str s xs := (h4.rows (by decide)).le (Claim.le_and_right _ _)
    have hks : (k : Int) < (s.len : Int) := by omega
    obtain ⟨(x : ByteArray), (hx : xs[k]? = some x), hat2⟩ := hrow.get (j := (k : Int)) (by omega) hks
    refine wp_cond (fun h => by cases h) (fun _ => wp_must (fun _ => rfl) (wp_load (r := s) (fun _ => hat) (wp_must (fun _ => ⟨by omega, hks, hrow.some (by omega) hks⟩) (wp_load (r := x) (fun _ => hat2) (wp_call (c10 (x := x) h0 hb) ?_)))))
    rintro r G' H' g d ⟨rfl, hn⟩
    have ex : xs.getD (k : Int).toNat ⟨#[]⟩ = x := by
      show xs.getD k ⟨#[]⟩ = x
      rw [List.getD_eq_getElem?_getD, hx]; rfl
    have es : send xs x = add xs x := by unfold send; rw [hgood x (List.mem_of_getElem? hx)]; rfl
    rw [es] at hn
    refine wp_ret ⟨_, rfl, ?_, ?_⟩
    · rw [if_pos rfl, ex, es]
    · rw [if_pos rfl, ex]; exact hn
end Go.Ev.Nets
