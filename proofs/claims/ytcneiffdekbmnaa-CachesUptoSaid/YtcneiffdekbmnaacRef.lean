/- The document's own answers. -/
import Derived.Test.YtcneiffdekbmnaacMake
namespace Go.Ev.Cache
open Go Go.Ev Go.Proofs

theorem flow_refl (f : D23) : eqDen S23 f f = true := (eqDen_iff (s := S23) (by decide)).2 rfl

/-- the first of its kind, or not -/
theorem idx_first {p : D25 → Bool} : ∀ {xs : List D25} {i : Nat} {x : D25} (n m : Nat), xs[i]? = some x → p x = true → (idx p xs n = ((n + i : Nat) : Int) ↔ allFrom (fun _ y => !p y) (xs.take i) m = true)
  | [], i, x, n, m, h, hp => by simp at h
  | y :: ys, 0, x, n, m, h, hp => by
    have : y = x := by simpa using h
    subst this
    rw [idx_cons, hp]
    simp [allFrom]
  | y :: ys, i + 1, x, n, m, h, hp => by
    rw [idx_cons, List.take_succ_cons, allFrom_cons]
    have ih := idx_first (xs := ys) (n + 1) (m + 1) (by simpa using h) hp
    cases hy : p y
    · simp only [cond_false, Bool.not_false, Bool.true_and]
      rw [show n + (i + 1) = n + 1 + i from by omega]
      exact ih
    · simp only [cond_true, Bool.not_true, Bool.false_and, Bool.false_eq_true, iff_false]
      omega

theorem allFrom_congr {p q : Nat → D25 → Bool} : ∀ {xs : List D25} {n : Nat}, (∀ i x, xs[i]? = some x → p (n + i) x = q (n + i) x) → allFrom p xs n = allFrom q xs n
  | [], n, h => rfl
  | x :: xs, n, h => by
    rw [allFrom_cons, allFrom_cons]
    have h0 := h 0 x (by simp)
    rw [Nat.add_zero] at h0
    rw [h0, allFrom_congr (xs := xs) (n := n + 1) fun i y hy => ?_]
    have := h (i + 1) y (by simpa using hy)
    rwa [show n + (i + 1) = n + 1 + i from by omega] at this

theorem new_is_at (xs : List D25) : allFrom (isNew xs) xs 0 = allFrom (isAt xs) xs 0 := by
  refine allFrom_congr fun i x hx => ?_
  rw [Nat.zero_add]
  unfold isNew isAt noneBefore
  cases entryMay x
  · rfl
  · rw [Bool.true_and, Bool.true_and]
    have := idx_first (p := sameFlow x.1) (n := 0) (m := 0) hx (flow_refl x.1)
    rw [Nat.zero_add] at this
    rw [Bool.eq_iff_iff, decide_eq_true_eq]
    exact this.symm

theorem p16 {S : Claim} {s : Sl} {xs : List D25} (hs : Rows S S25 s xs) : PureAt cx.P 16 [.slice s.a s.len s.cap] S .bool (cacheMay xs) := by
  unfold cacheMay
  rw [← new_is_at]
  exact p16' hs

theorem others_noes (xs : List D25) (f : D23) : others xs f = noes (sameFlow f) xs := rfl

theorem c10 {G H : Claim} {s : Sl} {xs : List D25} {f : D23} (hs : Rows G S25 s xs) (hb : xs.length ≤ big) (hd : G.disj H) :
    CallAt cx.P 10 [.slice s.a s.len s.cap, S23.enc f] G H (.tup (.pair .slice (.int .i64))) (fun (r : Sl × Int) _ H' => Gives G H (drop_ xs f).1 r.1 H' ∧ r.2 = (drop_ xs f).2) := by
  refine call_of ok Try.func10 (T10_eq s f) (wp_dcall (p16 (hs.and (Claim.le_refl _) hd)) ?_)
  unfold drop_
  cases hm : cacheMay xs
  · exact wp_cond (fun _ => wp_ret ⟨(⟨none, 0, 0⟩, (1600 : Int)), rfl, ⟨Mine.nil _ _ _ _, New.nil _ _ _ _, Claim.le_refl _⟩, rfl⟩) (fun h => by cases h)
  · refine wp_cond (fun h => by cases h) (fun _ => wp_call (c25 hs hb) ?_)
    intro r G' H' hle hdd hg
    exact wp_ret ⟨(r, (0 : Int)), rfl, hg, rfl⟩

theorem c12 {G H : Claim} {s : Sl} {xs : List D25} {now : Int} (hs : Rows G S25 s xs) (hb : xs.length ≤ big) (hd : G.disj H) (h1 : now < 9223372036854775808) (h2 : -9223372036854775808 ≤ now) :
    CallAt cx.P 12 [.slice s.a s.len s.cap, .int .i64 now] G H (.tup (.pair .slice (.pair .slice (.int .i64))))
      (fun (r : Sl × Sl × Int) _ H' => Gives2 G H (sweep xs now).1 (sweep xs now).2.1 r.1 r.2.1 H' ∧ r.2.2 = (sweep xs now).2.2) := by
  refine call_of ok Try.func12 (T12_eq s now) (wp_dcall (p16 (hs.and (Claim.le_refl _) hd)) (wp_dcall (p32 _) ?_))
  unfold sweep
  cases hm : cacheMay xs && timeMay now
  · have hc : (bif !cacheMay xs then true else !timeMay now) = true := by
      cases h1 : cacheMay xs <;> cases h2 : timeMay now <;> simp_all
    refine wp_cond (fun _ => wp_ret ⟨(⟨none, 0, 0⟩, ⟨none, 0, 0⟩, (1600 : Int)), rfl, ⟨Mine.nil _ _ _ _, Mine.nil _ _ _ _, New.nil _ _ _ _, New.nil _ _ _ _, fun b h => (nil_in h).elim, fun b h => (nil_in h).elim, fun b h => (nil_in h).elim, Claim.le_refl _⟩, rfl⟩) (fun h => ?_)
    have h' : (bif !cacheMay xs then true else !timeMay now) = false := h
    rw [hc] at h'; cases h'
  · have hc : (bif !cacheMay xs then true else !timeMay now) = false := by
      cases h1 : cacheMay xs <;> cases h2 : timeMay now <;> simp_all
    refine wp_cond (fun h => ?_) (fun _ => ?_)
    · have h' : (bif !cacheMay xs then true else !timeMay now) = true := h
      rw [hc] at h'; cases h'
    refine wp_loop (fun (v : Sl × Sl × Int × Unit) _ H' => ∃ (i : Nat) (acc acc2 : List D25), v.2.2.1 = i ∧ i ≤ s.len ∧ acc.length ≤ i ∧ acc2.length ≤ i ∧ noes (fun e => ran e now) xs = acc ++ noes (fun e => ran e now) (xs.drop i) ∧ xs.filter (fun e => ran e now) = acc2 ++ (xs.drop i).filter (fun e => ran e now) ∧ Gives2 G H acc acc2 v.1 v.2.1 H') (fun (v : Sl × Sl × Int × Unit) _ _ => s.len - v.2.2.1.toNat)
      ⟨0, [], [], rfl, Nat.zero_le _, Nat.zero_le _, Nat.zero_le _, rfl, rfl, ⟨Mine.nil _ _ _ _, Mine.nil _ _ _ _, New.nil _ _ _ _, New.nil _ _ _ _, fun b h => (nil_in h).elim, fun b h => (nil_in h).elim, fun b h => (nil_in h).elim, Claim.le_refl _⟩⟩ ?_
    rintro ⟨r, t, v, u⟩ G' H' hle hd ⟨i, acc, acc2, rfl, hi, hacc, hacc2, he, he2, hg⟩
    dsimp only at hg ⊢
    have hrow := hs.and hle hd
    have hlen : s.len = xs.length := hs.len
    have hbig : xs.length ≤ 2000000 := hb
    refine wp_cond (fun hc => ?_) (fun hc => ?_)
    · simp only [decide_eq_true_eq] at hc
      obtain ⟨(x : D25), (hx' : xs[i]? = some x), hat⟩ := hrow.get (j := (i : Int)) (by omega) hc
      have hw := wrap_next hc hs.small
      have e1 : (xs.drop i).filter (fun e => ran e now) = (if ran x now then [x] else []) ++ (xs.drop (i + 1)).filter (fun e => ran e now) := by
        rw [drop_cons hx', List.filter_cons]
        cases ran x now <;> rfl
      have e2 : noes (fun e => ran e now) (xs.drop i) = (if ran x now then [] else [x]) ++ noes (fun e => ran e now) (xs.drop (i + 1)) := by
        unfold noes
        rw [drop_cons hx', List.filter_cons]
        cases hr : ran x now <;> simp [hr]
      refine wp_must (fun _ => ⟨by omega, hc, hrow.some (by omega) hc⟩) (wp_load (r := x) (fun _ => hat) (wp_dcall (p28 _ (e := x) h1 h2) ?_))
      refine wp_cond (fun hq => ?_) (fun hq => ?_)
      · have hq' : ran x now = true := hq
        refine wp_must (fun _ => ⟨by omega, hc, hrow.some (by omega) hc⟩) (wp_load (r := x) (fun _ => hat) ?_)
        refine wp_push (sh := S25) (x := x) (xs := acc2) rfl rfl hg.m2 (by show acc2.length + 1 ≤ maxLen; simp only [maxLen]; omega) (by show (acc2.length + 1) * 72 ≤ 140737488355328; omega) (by decide) hle hg.hk hg.n2 ?_
        intro G2 s2 H2 g1 m1 m2 m3 m4 m5 m6
        have key : ∀ b, r.in b → H2 b = H' b ∧ ¬ s2.in b := fun b hb => m5 b (hg.ap b hb) (hg.t1 b hb)
        refine wp_again ⟨⟨i + 1, acc, acc2 ++ [x], hw, by omega, by omega, by simp; omega, ?_, ?_, ?_, m1, hg.n1, m3, ?_, tight m1 (show acc2 ++ [x] ≠ [] from by simp), ?_, m4⟩, ?_⟩
        · rw [he, e2, hq']; simp
        · rw [he2, e1, hq']; simp
        · exact hg.m1.keep fun b hb _ => (key b hb).1
        · intro b hb
          rw [(key b hb).1]
          exact hg.t1 b hb
        · exact fun b hb => (key b hb).2
        · simp only [hw]; omega
      · have hq' : ran x now = false := hq
        refine wp_must (fun _ => ⟨by omega, hc, hrow.some (by omega) hc⟩) (wp_load (r := x) (fun _ => hat) ?_)
        refine wp_push (sh := S25) (x := x) (xs := acc) rfl rfl hg.m1 (by show acc.length + 1 ≤ maxLen; simp only [maxLen]; omega) (by show (acc.length + 1) * 72 ≤ 140737488355328; omega) (by decide) hle hg.hk hg.n1 ?_
        intro G2 s2 H2 g1 m1 m2 m3 m4 m5 m6
        have key : ∀ b, t.in b → H2 b = H' b ∧ ¬ s2.in b := fun b hb => m5 b (fun h => hg.ap b h hb) (hg.t2 b hb)
        refine wp_again ⟨⟨i + 1, acc ++ [x], acc2, hw, by omega, by simp; omega, by omega, ?_, ?_, m1, ?_, m3, hg.n2, tight m1 (show acc ++ [x] ≠ [] from by simp), ?_, ?_, m4⟩, ?_⟩
        · rw [he, e2, hq']; simp
        · rw [he2, e1, hq']; simp
        · exact hg.m2.keep fun b hb _ => (key b hb).1
        · intro b hb
          rw [(key b hb).1]
          exact hg.t2 b hb
        · exact fun b hb hb2 => (key b hb2).2 hb
        · simp only [hw]; omega
    · simp only [decide_eq_false_iff_not] at hc
      refine wp_pop (wp_ret ⟨(r, t, (0 : Int)), rfl, ?_, rfl⟩)
      rw [drop_none (by omega)] at he he2
      simp only [cond_true]
      rw [he, he2]
      simpa [noes] using hg

/-! ### comparing -/

def same (xs ys : List D25) : Bool := decide (xs = ys)

theorem p13 {S : Claim} {s t : Sl} {xs ys : List D25} (hs : Rows S S25 s xs) (ht : Rows S S25 t ys) : PureAt cx.P 13 [.slice s.a s.len s.cap, .slice t.a t.len t.cap] S .bool (same xs ys) := by
  have l1 : s.len = xs.length := hs.len
  have l2 : t.len = ys.length := ht.len
  refine pure_of ok Try.func13 (T13_eq s t) (wp_cond (fun hc => wp_ret ?_) (fun hc => ?_))
  · have hne : ¬ xs = ys := by
      rintro rfl
      rw [l1, l2] at hc
      simp at hc
    unfold same
    rw [decide_eq_false hne]
    rfl
  · have hll : xs.length = ys.length := by
      simp only [bne_eq_false_iff_eq] at hc
      omega
    refine wp_loop (fun (v : Int × Unit) _ _ => ∃ i : Nat, v.1 = i ∧ i ≤ s.len ∧ xs.take i = ys.take i) (fun (v : Int × Unit) _ _ => s.len - v.1.toNat) ⟨0, rfl, Nat.zero_le _, by simp⟩ ?_
    rintro ⟨v, u⟩ G' H' hle hd ⟨i, rfl, hi, he⟩
    dsimp only
    have hrow := hs.and hle hd
    have hrow2 := ht.and hle hd
    refine wp_cond (fun hc => ?_) (fun hc => ?_)
    · simp only [decide_eq_true_eq] at hc
      have hc2 : (i : Int) < (t.len : Int) := by omega
      obtain ⟨(x : D25), (hx : xs[i]? = some x), hat⟩ := hrow.get (j := (i : Int)) (by omega) hc
      obtain ⟨(y : D25), (hy : ys[i]? = some y), hat2⟩ := hrow2.get (j := (i : Int)) (by omega) hc2
      have hw := wrap_next hc hs.small
      refine wp_must (fun _ => ⟨by omega, hc, hrow.some (by omega) hc⟩) (wp_load (r := x) (fun _ => hat) (wp_must (fun _ => ⟨by omega, hc2, hrow2.some (by omega) hc2⟩) (wp_load (r := y) (fun _ => hat2) ?_)))
      refine wp_cond (fun hq => wp_pop (wp_ret ?_)) (fun hq => wp_again ⟨⟨i + 1, hw, by omega, ?_⟩, ?_⟩)
      · have hq' : (!eqDen S25 x y) = true := hq
        have hne : ¬ xs = ys := by
          rintro rfl
          rw [hx] at hy
          cases hy
          have hr : eqDen S25 x x = true := (eqDen_iff (s := S25) (by decide) (a := x) (b := x)).2 rfl
          rw [hr] at hq'
          cases hq'
        unfold same
        rw [decide_eq_false hne]
        rfl
      · have hq' : (!eqDen S25 x y) = false := hq
        have hxy : x = y := (eqDen_iff (s := S25) (by decide)).1 (by simpa using hq')
        rw [List.take_add_one, List.take_add_one, he, hx, hy, hxy]
      · simp only [hw]; omega
    · simp only [decide_eq_false_iff_not] at hc
      refine wp_pop (wp_ret ?_)
      have e1 : xs = ys := by
        rw [List.take_of_length_le (by omega), List.take_of_length_le (by omega)] at he
        exact he
      unfold same
      rw [decide_eq_true e1]
      rfl

/-! ### finding -/

def find (xs : List D25) (f : D23) (now : Int) : D25 × Bool :=
  match xs.find? (sameFlow f) with
  | some x => bif cacheMay xs && !ran x now then (x, true) else (zeroE, false)
  | none => (zeroE, false)

theorem idx_find {p : D25 → Bool} : ∀ (xs : List D25) (n : Nat), (xs.find? p = none ∧ idx p xs n = -1) ∨ ∃ x i, xs.find? p = some x ∧ idx p xs n = ((n + i : Nat) : Int) ∧ xs[i]? = some x
  | [], n => .inl ⟨rfl, rfl⟩
  | y :: ys, n => by
    rw [idx_cons, List.find?_cons]
    cases hy : p y
    · rcases idx_find ys (n + 1) with ⟨h1, h2⟩ | ⟨x, i, h1, h2, h3⟩
      · exact .inl ⟨h1, h2⟩
      · refine .inr ⟨x, i + 1, h1, ?_, by simpa using h3⟩
        simp only [cond_false]
        rw [h2]
        congr 1
        omega
    · exact .inr ⟨y, 0, rfl, rfl, by simp⟩

theorem p7 {S : Claim} {s : Sl} {xs : List D25} {f : D23} {now : Int} (hs : Rows S S25 s xs) : PureAt cx.P 7 [.slice s.a s.len s.cap, S23.enc f, .int .i64 now] S (.tup (.pair S25 .bool)) (find xs f now) := by
  have l1 : s.len = xs.length := hs.len
  have hrow := hs.and (Claim.le_refl _) (Claim.disj_none S)
  refine pure_of ok Try.func7 (T7_eq s f now) (wp_dcall (p26 hrow (f := f)) (wp_dcall (p15 hrow) ?_))
  unfold find
  rcases idx_find (p := sameFlow f) xs 0 with ⟨h1, h2⟩ | ⟨x, i, h1, h2, h3⟩
  · have ha : at_ xs f = -1 := h2
    rw [h1, ha]
    refine wp_must (fun h => by simp at h) (wp_load (r := zeroE) (fun h => by simp at h) (wp_dcall (p27 _ (e := zeroE)) (wp_cond (fun _ => wp_ret rfl) (fun h => ?_))))
    simp at h
  · have ha : at_ xs f = (i : Int) := by rw [← Nat.zero_add i]; exact h2
    have hi : i < xs.length := (List.getElem?_eq_some_iff.1 h3).1
    have hc : (i : Int) < (s.len : Int) := by omega
    have h0 : (0 : Int) ≤ (i : Int) := by omega
    obtain ⟨(y : D25), (hy : xs[i]? = some y), hat⟩ := hrow.get (j := (i : Int)) h0 hc
    have hxy : y = x := by rw [h3] at hy; exact (Option.some.inj hy).symm
    subst hxy
    rw [h1, ha]
    have hneg : decide ((i : Int) < 0) = false := by simp
    rw [hneg]
    refine wp_must (fun _ => ⟨h0, hc, hrow.some h0 hc⟩) (wp_load (r := y) (fun _ => hat) (wp_dcall (p27 _ (e := y)) ?_))
    cases hm : cacheMay xs
    · exact wp_cond (fun _ => wp_ret rfl) (fun h => by cases h)
    · cases hr : ran y now
      · exact wp_cond (fun h => by cases h) (fun _ => wp_must (fun _ => ⟨h0, hc, hrow.some h0 hc⟩) (wp_load (r := y) (fun _ => hat) (wp_ret (by dsimp only; rw [hr]; rfl))))
      · exact wp_cond (fun _ => wp_ret (by dsimp only; rw [hr]; rfl)) (fun h => by cases h)
end Go.Ev.Cache
