/- What only computes: what is set, seen, heard. -/
import Derived.Test.YtaeaipkjlhigmaasCache
namespace Go.Ev.Spare
open Go Go.Ev Go.Proofs

section
variable {P : Program} {E : Env} {G H : Claim} {Q : Value → Claim → Claim → Prop}
/-- a walk along a row: as long as each is well -/
theorem wp_each {len : Nat} (hm : len ≤ maxLen) (okd : Nat → Prop) {A : Int × Unit → T} {B : T}
    (hstep : ∀ (i : Nat) (G' H' : Claim) (J : Int × Unit → Claim → Claim → Prop), G.le G' → G'.disj H' → (i : Int) < (len : Int) → (∀ j, j < i → okd j) → (okd i → ∀ G2 H2, J (IntKind.i64.wrap ((i : Int) + 1), ()) G2 H2) →
      (A ((i : Int), ())).wp P (headJ (.pair (.int .i64) .unit) J :: E) G' H' Q)
    (hend : ∀ (G' H' : Claim) (J : (sh : Sh) → sh.den → Claim → Claim → Prop), G.le G' → G'.disj H' → (∀ j, j < len → okd j) → B.wp P (J :: E) G' H' Q) :
    (T.loop (.pair (.int .i64) .unit) ((0 : Int), ()) fun (v : Int × Unit) => .cond (decide (v.1 < (↑len : Int))) (A v) B).wp P E G H Q := by
  refine wp_loop (fun (v : Int × Unit) _ _ => ∃ i : Nat, v.1 = i ∧ i ≤ len ∧ ∀ j, j < i → okd j) (fun (v : Int × Unit) _ _ => len - v.1.toNat) ⟨0, rfl, Nat.zero_le _, fun j h => absurd h (Nat.not_lt_zero _)⟩ ?_
  rintro ⟨v, u⟩ G' H' hle hd ⟨i, rfl, hi, he⟩
  refine wp_cond (fun hc => ?_) (fun hc => ?_)
  · simp only [decide_eq_true_eq] at hc
    have hw := wrap_next hc hm
    refine hstep i G' H' _ hle hd hc he (fun hk G2 H2 => ⟨⟨i + 1, hw, by omega, fun j hj => ?_⟩, ?_⟩)
    · rcases Nat.lt_succ_iff_lt_or_eq.1 hj with h | rfl
      · exact he j h
      · exact hk
    · simp only [hw]; omega
  · simp only [decide_eq_false_iff_not] at hc
    have : i = len := by omega
    subst this
    exact hend G' H' _ hle hd he
/-- a call that is not made needs nothing -/
theorem wp_dcall_if {b : Bool} {f : FuncId} {args : List Value} {sh : Sh} {k : sh.den → T} (r : sh.den) (hp : b = true → PureAt P f args (G.and H) sh r) (h : (k r).wp P E G H Q) : (T.dcall b f args sh k).wp P E G H Q := ⟨r, hp, h⟩
end

theorem at_sub {S : Claim} {a : Addr} {vs : List Value} (h : S.at a vs) (u : List Value) {w z : List Value} (e : vs = u ++ (w ++ z)) : S.at (a.add u.length) w := by
  subst e
  exact (Claim.at_append.1 (Claim.at_append.1 h).2).1

theorem all_true {α : Type} {p : α → Bool} {xs : List α} {n : Nat} (hl : n = xs.length) (h : ∀ j, j < n → ∀ x, xs[j]? = some x → p x = true) : xs.all p = true := by
  rw [List.all_eq_true]
  intro x hx
  obtain ⟨i, hi⟩ := List.getElem?_of_mem hx
  have : i < xs.length := (List.getElem?_eq_some_iff.1 hi).1
  exact h i (by omega) x hi
theorem all_false {α : Type} {p : α → Bool} {xs : List α} {i : Nat} {x : α} (hx : xs[i]? = some x) (h : p x = false) : xs.all p = false := by
  rw [List.all_eq_false]
  exact ⟨x, List.mem_of_getElem? hx, by simp [h]⟩
theorem allFrom_true {α : Type} {p : Nat → α → Bool} : ∀ {xs : List α} {n : Nat}, (∀ j, j < xs.length → ∀ x, xs[j]? = some x → p (n + j) x = true) → allFrom p xs n = true
  | [], _, _ => rfl
  | x :: xs, n, h => by
    rw [allFrom_cons]
    have h0 := h 0 (by simp) x rfl
    rw [Nat.add_zero] at h0
    rw [h0, Bool.true_and]
    refine allFrom_true fun j hj y hy => ?_
    have := h (j + 1) (by simpa using hj) y (by simpa using hy)
    rwa [show n + (j + 1) = n + 1 + j from by omega] at this
theorem allFrom_false {α : Type} {p : Nat → α → Bool} : ∀ {xs : List α} {n i : Nat} {x : α}, xs[i]? = some x → p (n + i) x = false → allFrom p xs n = false
  | [], _, _, _, h, _ => by simp at h
  | y :: xs, n, 0, x, h, hp => by
    have : y = x := by simpa using h
    subst this
    rw [allFrom_cons]
    rw [Nat.add_zero] at hp
    rw [hp]; rfl
  | y :: xs, n, i + 1, x, h, hp => by
    rw [allFrom_cons, allFrom_false (n := n + 1) (i := i) (x := x) (by simpa using h) (by rwa [show n + 1 + i = n + (i + 1) from by omega]), Bool.and_false]

/-! ### what is set -/

/-- a site, and its backs -/
abbrev Site : Type := D52 × List D82
structure KCfg (S : Claim) (c : D23) (cs : List Site) : Prop where
  row : Rows S S52 c.2 (cs.map (·.1))
  kid : ∀ p ∈ cs, Rows S S82 p.1.2.2.2 p.2
theorem KCfg.le {S S' : Claim} {c : D23} {cs : List Site} (h : KCfg S c cs) (l : S.le S') : KCfg S' c cs := ⟨h.row.le l, fun p hp => (h.kid p hp).le l⟩
theorem KCfg.and {S G H : Claim} {c : D23} {cs : List Site} (h : KCfg S c cs) (l : S.le G) (d : G.disj H) : KCfg (G.and H) c cs := h.le (Claim.le_trans l (Claim.le_and_left G H d))
theorem KCfg.len {S : Claim} {c : D23} {cs : List Site} (h : KCfg S c cs) : c.2.len = cs.length := by
  have e : c.2.len = (cs.map (·.1)).length := h.row.len
  simpa using e
theorem KCfg.get {S : Claim} {c : D23} {cs : List Site} (h : KCfg S c cs) {j : Int} (h0 : 0 ≤ j) (h1 : j < (c.2.len : Int)) :
    ∃ p : Site, cs[j.toNat]? = some p ∧ S.at ((c.2.a.getD ⟨0, 0, none⟩).add (j.toNat * 4)) (S52.flat p.1) ∧ Rows S S82 p.1.2.2.2 p.2 := by
  obtain ⟨x, hx, hat⟩ := h.row.get h0 h1
  have hx' : (cs.map (·.1))[j.toNat]? = some x := hx
  rw [List.getElem?_map] at hx'
  obtain ⟨p, hp, rfl⟩ := Option.map_eq_some_iff.1 hx'
  exact ⟨p, hp, hat, h.kid p (List.mem_of_getElem? hp)⟩

def to_ (x m : Int) : Bool := decide (0 ≤ x) && decide (x ≤ m)
def siteMay (p : Site) : Bool := (to_ p.1.1 16 && (to_ p.1.2.2.1 8 && decide (p.2.length ≤ 4))) && p.2.all fun b => to_ b.1 16
def confMay (v : Int) (cs : List Site) : Bool := (timeMay v && decide (cs.length ≤ 3)) && cs.all siteMay

variable {S : Claim}

theorem p47 {a : Addr} {p : Site} (ha : S.at a (S52.flat p.1)) (hb : Rows S S82 p.1.2.2.2 p.2) : PureAt cx.P 47 [.pointer (some a)] S .bool (siteMay p) := by
  have l0 : p.1.2.2.2.len = p.2.length := hb.len
  have a0 : S.at (a.add 0) [.int .i64 p.1.1] := at_sub ha [] rfl
  have a2 : S.at (a.add 2) [.int .i64 p.1.2.2.1] := at_sub ha [.int .i64 p.1.1, .bool p.1.2.1] rfl
  have a3 : S.at (a.add 3) [.slice p.1.2.2.2.a p.1.2.2.2.len p.1.2.2.2.cap] := at_sub ha [.int .i64 p.1.1, .bool p.1.2.1, .int .i64 p.1.2.2.1] rfl
  have hd0 := Claim.disj_none S
  refine pure_of ok Try.func47 (T47_eq (some a)) (wp_must (fun _ => rfl) (wp_load (r := p.1.2.2.2) (fun _ => Claim.at_and a3 (Claim.le_refl _) hd0) ?_))
  refine wp_each hb.small (fun i => ∀ x, p.2[i]? = some x → to_ x.1 16 = true) ?_ ?_
  · intro i G' H' J hle hd hc hbef hJ
    have hrow := hb.and hle hd
    obtain ⟨(x : D82), (hx : p.2[i]? = some x), hat⟩ := hrow.get (j := (i : Int)) (by omega) hc
    refine wp_must (fun _ => ⟨by omega, hc, hrow.some (by omega) hc⟩) (wp_load (r := x) (fun _ => hat) (wp_dcall (p43 _) (wp_cond (fun hp => wp_pop (wp_ret ?_)) (fun hp => wp_again (hJ (fun y hy => ?_) _ _)))))
    · have hp' : to_ x.1 16 = false := by
        have h0 : (!to_ x.1 16) = true := hp
        simpa using h0
      unfold siteMay
      rw [all_false (p := fun b : D82 => to_ b.1 16) hx hp', Bool.and_false]
      rfl
    · have hxy : x = y := by rw [hx] at hy; exact Option.some.inj hy
      subst hxy
      have hp' : to_ x.1 16 = true := by
        have h0 : (!to_ x.1 16) = false := hp
        simpa using h0
      exact hp'
  · intro G' H' J hle hd hall
    refine wp_pop (wp_must (fun _ => rfl) (wp_load (r := p.1.1) (fun _ => Claim.at_and a0 hle hd) (wp_dcall (p43 _) (wp_must (fun _ => rfl) (wp_load (r := p.1.2.2.1) (fun _ => Claim.at_and a2 hle hd) (wp_dcall (p43 _) (wp_must (fun _ => rfl) (wp_load (r := p.1.2.2.2) (fun _ => Claim.at_and a3 hle hd) (wp_ret ?_)))))))))
    unfold siteMay
    rw [all_true (p := fun b : D82 => to_ b.1 16) l0 (fun j hj x hx => hall j hj x hx), Bool.and_true]
    show Value.bool _ = Value.bool _
    congr 1
    have e : decide ((p.1.2.2.2.len : Int) ≤ 4) = decide (p.2.length ≤ 4) := by rw [l0]; rw [Bool.eq_iff_iff]; simp; omega
    rw [e]
    unfold to_
    cases (decide (0 ≤ p.1.1) && decide (p.1.1 ≤ 16)) <;> cases (decide (0 ≤ p.1.2.2.1) && decide (p.1.2.2.1 ≤ 8)) <;> rfl

theorem p33 {c : D23} {cs : List Site} (hk : KCfg S c cs) : PureAt cx.P 33 [S23.enc c] S .bool (confMay c.1 cs) := by
  refine pure_of ok Try.func33 (T33_eq c) ?_
  refine wp_each hk.row.small (fun i => ∀ x, cs[i]? = some x → siteMay x = true) ?_ ?_
  · intro i G' H' J hle hd hc hbef hJ
    have hrow := hk.and hle hd
    obtain ⟨p, (hp : cs[i]? = some p), hat, hkid⟩ := hrow.get (j := (i : Int)) (by omega) hc
    refine wp_must (fun _ => ⟨by omega, hc, hrow.row.some (by omega) hc⟩) (wp_dcall (p47 hat hkid) (wp_cond (fun hq => wp_pop (wp_ret ?_)) (fun hq => wp_again (hJ (fun y hy => ?_) _ _))))
    · have hq' : siteMay p = false := by simpa using hq
      unfold confMay
      rw [all_false hp hq', Bool.and_false]
      rfl
    · have hxy : p = y := by rw [hp] at hy; exact Option.some.inj hy
      subst hxy
      simpa using hq
  · intro G' H' J hle hd hall
    refine wp_pop (wp_dcall (p24 _) (wp_ret ?_))
    unfold confMay
    rw [all_true hk.len hall, Bool.and_true]
    show Value.bool _ = Value.bool _
    congr 1
    have e : decide ((c.2.len : Int) ≤ 3) = decide (cs.length ≤ 3) := by rw [hk.len]; rw [Bool.eq_iff_iff]; simp; omega
    rw [e]
    cases timeMay c.1 <;> rfl

theorem p39 {c : D23} {cs : List Site} (hk : KCfg S c cs) : PureAt cx.P 39 [S23.enc c] S .bool (confMay c.1 cs) := by
  refine pure_of ok Try.func39 (T39_eq c) (wp_cond (fun hc => wp_ret ?_) (fun hc0 => ?_))
  · unfold confMay
    have : (timeMay c.1 && decide (cs.length ≤ 3)) = false := by
      have hl := hk.len
      unfold timeMay
      rw [hl] at hc
      by_cases h1 : c.1 < 0
      · simp [show ¬ (0 : Int) ≤ c.1 from by omega]
      · by_cases h2 : c.1 > 1048576
        · simp [show ¬ c.1 ≤ (1048576 : Int) from by omega]
        · simp [h1, h2] at hc
          simp [show ¬ cs.length ≤ 3 from by omega]
    rw [this]
    rfl
  have hhead : (timeMay c.1 && decide (cs.length ≤ 3)) = true := by
    have hl := hk.len
    rw [hl] at hc0
    unfold timeMay
    by_cases h1 : c.1 < 0
    · simp [h1] at hc0
    · by_cases h2 : c.1 > 1048576
      · simp [h1, h2] at hc0
      · simp [h1, h2] at hc0
        simp only [Bool.and_eq_true, decide_eq_true_eq]
        omega
  refine wp_each hk.row.small (fun i => ∀ x, cs[i]? = some x → siteMay x = true) ?_ ?_
  · intro i G' H' J hle hd hc hbef hJ
    have hrow := hk.and hle hd
    obtain ⟨p, (hp : cs[i]? = some p), hat, hkid⟩ := hrow.get (j := (i : Int)) (by omega) hc
    have l0 : p.1.2.2.2.len = p.2.length := hkid.len
    have hfail : siteMay p = false → Value.bool false = Sh.bool.enc (confMay c.1 cs) := fun h => by
      unfold confMay
      rw [all_false hp h, Bool.and_false]
      rfl
    refine wp_must (fun _ => ⟨by omega, hc, hrow.row.some (by omega) hc⟩) (wp_load (r := p.1) (fun _ => hat) (wp_cond (fun hq => wp_pop (wp_ret (hfail ?_))) (fun hq => ?_)))
    · rw [l0] at hq
      unfold siteMay to_
      by_cases h1 : p.1.1 < 0
      · simp [show ¬ (0 : Int) ≤ p.1.1 from by omega]
      · by_cases h2 : p.1.1 > 16
        · simp [show ¬ p.1.1 ≤ (16 : Int) from by omega]
        · by_cases h3 : p.1.2.2.1 < 0
          · simp [show ¬ (0 : Int) ≤ p.1.2.2.1 from by omega]
          · by_cases h4 : p.1.2.2.1 > 8
            · simp [show ¬ p.1.2.2.1 ≤ (8 : Int) from by omega]
            · simp [h1, h2, h3, h4] at hq
              simp [show ¬ p.2.length ≤ 4 from by omega]
    · have hsite : (to_ p.1.1 16 && (to_ p.1.2.2.1 8 && decide (p.2.length ≤ 4))) = true := by
        rw [l0] at hq
        unfold to_
        by_cases h1 : p.1.1 < 0
        · simp [h1] at hq
        · by_cases h2 : p.1.1 > 16
          · simp [h1, h2] at hq
          · by_cases h3 : p.1.2.2.1 < 0
            · simp [h1, h2, h3] at hq
            · by_cases h4 : p.1.2.2.1 > 8
              · simp [h1, h2, h3, h4] at hq
              · simp [h1, h2, h3, h4] at hq
                simp only [Bool.and_eq_true, decide_eq_true_eq]
                omega
      refine wp_each hkid.small (fun i => ∀ x, p.2[i]? = some x → to_ x.1 16 = true) ?_ ?_
      · intro k G2 H2 J2 hle2 hd2 hc2 hbef2 hJ2
        have hrow2 := (hk.kid p (List.mem_of_getElem? hp)).and (Claim.le_trans hle hle2) hd2
        obtain ⟨(x : D82), (hx : p.2[k]? = some x), hat2⟩ := hrow2.get (j := (k : Int)) (by omega) hc2
        have a0 : (G2.and H2).at (((p.1.2.2.2.a.getD ⟨0, 0, none⟩).add (k * 2)).add 0) [.int .i64 x.1] := at_sub hat2 [] rfl
        refine wp_must (fun _ => ⟨by omega, hc2, hrow2.some (by omega) hc2⟩) (wp_load (r := x.1) (fun _ => a0) (wp_must (fun _ => ⟨by omega, hc2, hrow2.some (by omega) hc2⟩) (wp_load (r := x.1) (fun _ => a0) (wp_cond (fun hq => wp_pop (wp_pop (wp_ret (hfail ?_)))) (fun hq => wp_again (hJ2 (fun y hy => ?_) _ _))))))
        · unfold siteMay
          rw [all_false (p := fun b : D82 => to_ b.1 16) hx ?_, Bool.and_false]
          unfold to_
          by_cases h1 : x.1 < 0
          · simp [show ¬ (0 : Int) ≤ x.1 from by omega]
          · simp [h1] at hq
            simp [show ¬ x.1 ≤ (16 : Int) from by omega]
        · have hxy : x = y := by rw [hx] at hy; exact Option.some.inj hy
          subst hxy
          unfold to_
          by_cases h1 : x.1 < 0
          · simp [h1] at hq
          · simp [h1] at hq
            simp only [Bool.and_eq_true, decide_eq_true_eq]
            omega
      · intro G2 H2 J2 hle2 hd2 hall2
        refine wp_pop (wp_again (hJ (fun y hy => ?_) _ _))
        have hxy : p = y := by rw [hp] at hy; exact Option.some.inj hy
        subst hxy
        unfold siteMay
        rw [hsite, all_true (p := fun b : D82 => to_ b.1 16) l0 hall2]
        rfl
  · intro G' H' J hle hd hall
    refine wp_pop (wp_ret ?_)
    unfold confMay
    rw [hhead, all_true hk.len hall]
    rfl
end Go.Ev.Spare
