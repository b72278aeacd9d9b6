/- A node: may it be asked, how many flows it has, who of its own can take. -/
import Derived.Test.YtaeaipkjlhigmaasSame
namespace Go.Ev.Spare
open Go Go.Ev Go.Proofs

structure KNode (S : Claim) (x : D28) (cs : List Site) (hs : List D85) (vs : List D90) (es : List D49) : Prop where
  cfg : KCfg S x.2.1 cs
  hs : Rows S S85 x.2.2.1 hs
  vs : Rows S S90 x.2.2.2.1 vs
  es : Rows S S49 x.2.2.2.2.1 es
theorem KNode.le {S S' : Claim} {x : D28} {cs : List Site} {hs : List D85} {vs : List D90} {es : List D49} (h : KNode S x cs hs vs es) (l : S.le S') : KNode S' x cs hs vs es := ⟨h.cfg.le l, h.hs.le l, h.vs.le l, h.es.le l⟩
theorem KNode.and {S G H : Claim} {x : D28} {cs : List Site} {hs : List D85} {vs : List D90} {es : List D49} (h : KNode S x cs hs vs es) (l : S.le G) (d : G.disj H) : KNode (G.and H) x cs hs vs es := h.le (Claim.le_trans l (Claim.le_and_left G H d))

def spareMay (id ver : Int) (cs : List Site) (hs : List D85) (vs : List D90) (es : List D49) : Bool := confMay ver cs && (siteIn id && (healthsMay hs 4 && (viewMay vs && cacheMay es)))
def load (es : List D49) : Nat := es.countP fun e => !e.2.2.1

section
variable {P : Program} {E : Env} {G H : Claim} {Q : Value → Claim → Claim → Prop}
/-- a count of the flows that are here -/
theorem wp_count {es : List D49} {len : Nat} (hl : len = es.length) (hm : len ≤ maxLen) {A B : Int × Int × Unit → T}
    (hstep : ∀ (i n : Nat) (G' H' : Claim) (J : Int × Int × Unit → Claim → Claim → Prop), G.le G' → G'.disj H' → (i : Int) < (len : Int) →
      (∀ x, es[i]? = some x → (x.2.2.1 = false → ∀ G2 H2, J (IntKind.i64.wrap ((n : Int) + 1), IntKind.i64.wrap ((i : Int) + 1), ()) G2 H2) ∧ (x.2.2.1 = true → ∀ G2 H2, J ((n : Int), IntKind.i64.wrap ((i : Int) + 1), ()) G2 H2)) →
      (A ((n : Int), (i : Int), ())).wp P (headJ (.pair (.int .i64) (.pair (.int .i64) .unit)) J :: E) G' H' Q)
    (hend : ∀ (i : Int) (G' H' : Claim) (J : (sh : Sh) → sh.den → Claim → Claim → Prop), G.le G' → G'.disj H' → (B ((load es : Int), i, ())).wp P (J :: E) G' H' Q) :
    (T.loop (.pair (.int .i64) (.pair (.int .i64) .unit)) ((0 : Int), ((0 : Int), ())) fun (v : Int × Int × Unit) => .cond (decide (v.2.1 < (↑len : Int))) (A v) (B v)).wp P E G H Q := by
  refine wp_loop (fun (v : Int × Int × Unit) _ _ => ∃ i : Nat, v.2.1 = i ∧ i ≤ len ∧ v.1 = (load (es.take i) : Int)) (fun (v : Int × Int × Unit) _ _ => len - v.2.1.toNat) ⟨0, rfl, Nat.zero_le _, by simp [load]⟩ ?_
  rintro ⟨n, v, u⟩ G' H' hle hd ⟨i, hi0, hi, hn⟩
  dsimp only at hi0 hn
  subst hi0 hn
  refine wp_cond (fun hc => ?_) (fun hc => ?_)
  · simp only [decide_eq_true_eq] at hc
    have hw := wrap_next hc hm
    have hcnt : load (es.take i) ≤ i := by
      have := List.countP_le_length (p := fun e : D49 => !e.2.2.1) (l := es.take i)
      unfold load
      rw [List.length_take] at this
      omega
    have hw2 : IntKind.i64.wrap ((load (es.take i) : Int) + 1) = ((load (es.take i) + 1 : Nat) : Int) := by
      rw [wrap_i64 (by omega) (by simp only [maxLen] at hm; omega)]
      rfl
    refine hstep i (load (es.take i)) G' H' _ hle hd hc fun x hx => ⟨fun ha G2 H2 => ⟨⟨i + 1, hw, by omega, ?_⟩, ?_⟩, fun ha G2 H2 => ⟨⟨i + 1, hw, by omega, ?_⟩, ?_⟩⟩
    · show IntKind.i64.wrap ((load (es.take i) : Int) + 1) = _
      rw [hw2]
      unfold load
      rw [List.take_add_one, hx, List.countP_append]
      simp [ha]
    · simp only [hw]; omega
    · unfold load
      rw [List.take_add_one, hx, List.countP_append]
      simp [ha]
    · simp only [hw]; omega
  · simp only [decide_eq_false_iff_not] at hc
    rw [List.take_of_length_le (by omega)]
    exact hend _ G' H' _ hle hd
end

variable {S : Claim} {x : D28} {cs : List Site} {hs : List D85} {vs : List D90} {es : List D49}

theorem p19 {a : Addr} (ha : S.at a (S28.flat x)) (hk : KNode S x cs hs vs es) : PureAt cx.P 19 [.pointer (some a)] S (.int .i64) (load es : Int) := by
  have a5 : S.at (a.add 5) [.slice x.2.2.2.2.1.a x.2.2.2.2.1.len x.2.2.2.2.1.cap] := at_sub ha [.int .i64 x.1, .int .i64 x.2.1.1, .slice x.2.1.2.a x.2.1.2.len x.2.1.2.cap, .slice x.2.2.1.a x.2.2.1.len x.2.2.1.cap, .slice x.2.2.2.1.a x.2.2.2.1.len x.2.2.2.1.cap] (z := [.int .i64 x.2.2.2.2.2]) rfl
  have hl : x.2.2.2.2.1.len = es.length := hk.es.len
  refine pure_of ok Try.func19 (T19_eq (some a)) (wp_must (fun _ => rfl) (wp_load (r := x.2.2.2.2.1) (fun _ => Claim.at_and a5 (Claim.le_refl _) (Claim.disj_none S)) ?_))
  refine wp_count hl hk.es.small ?_ ?_
  · intro i n G' H' J hle hd hc hJ
    have hrow := hk.es.and hle hd
    obtain ⟨(e : D49), (he : es[i]? = some e), hat⟩ := hrow.get (j := (i : Int)) (by omega) hc
    have hj := hJ e he
    refine wp_must (fun _ => ⟨(by show (0 : Int) ≤ (i : Int); omega), hc, hrow.some (j := (i : Int)) (by omega) hc⟩) (wp_load (r := e) (fun _ => hat) (wp_cond (fun hq => wp_again (hj.1 (by simpa using hq) _ _)) (fun hq => wp_again (hj.2 (by simpa using hq) _ _))))
  · intro i G' H' J hle hd
    exact wp_pop (wp_ret rfl)
theorem p23 (hk : KNode S x cs hs vs es) : PureAt cx.P 23 [S28.enc x] S (.int .i64) (load es : Int) := by
  have hl : x.2.2.2.2.1.len = es.length := hk.es.len
  refine pure_of ok Try.func23 (T23_eq x) (wp_count hl hk.es.small ?_ ?_)
  · intro i n G' H' J hle hd hc hJ
    have hrow := hk.es.and hle hd
    obtain ⟨(e : D49), (he : es[i]? = some e), hat⟩ := hrow.get (j := (i : Int)) (by omega) hc
    have hj := hJ e he
    have a6 : (G'.and H').at (((x.2.2.2.2.1.a.getD ⟨0, 0, none⟩).add (i * 9)).add 6) [.bool e.2.2.1] := at_sub hat [.int .i64 e.1.1, .int .i64 e.1.2.1, .int .i64 e.1.2.2.1, .int .i64 e.1.2.2.2.1, .int .i64 e.1.2.2.2.2, .int .i64 e.2.1] (z := [.int .i64 e.2.2.2.1, .int .i64 e.2.2.2.2]) rfl
    refine wp_must (fun _ => ⟨(by show (0 : Int) ≤ (i : Int); omega), hc, hrow.some (j := (i : Int)) (by omega) hc⟩) (wp_load (r := e.2.2.1) (fun _ => a6) (wp_cond (fun hq => wp_again (hj.1 (by simpa using hq) _ _)) (fun hq => wp_again (hj.2 (by simpa using hq) _ _))))
  · intro i G' H' J hle hd
    exact wp_pop (wp_ret rfl)

theorem may_end {a b c d e : Bool} : Value.bool (bif bif bif bif a then b else false then c else false then d else false then e else false) = Sh.bool.enc (a && (b && (c && (d && e)))) := by
  cases a <;> cases b <;> cases c <;> cases d <;> rfl

theorem p16 {a : Addr} (ha : S.at a (S28.flat x)) (hk : KNode S x cs hs vs es) : PureAt cx.P 16 [.pointer (some a)] S .bool (spareMay x.1 x.2.1.1 cs hs vs es) := by
  have d0 := Claim.disj_none S
  have l0 := Claim.le_refl S
  have hb := hk.and l0 d0
  have a0 : S.at (a.add 0) [.int .i64 x.1] := at_sub ha [] (z := (S28.flat x).drop 1) rfl
  have a1 : S.at (a.add 1) (S23.flat x.2.1) := at_sub ha [.int .i64 x.1] (z := (S28.flat x).drop 3) rfl
  have a3 : S.at (a.add 3) [.slice x.2.2.1.a x.2.2.1.len x.2.2.1.cap] := at_sub ha ((S28.flat x).take 3) (z := (S28.flat x).drop 4) rfl
  have a4 : S.at (a.add 4) [.slice x.2.2.2.1.a x.2.2.2.1.len x.2.2.2.1.cap] := at_sub ha ((S28.flat x).take 4) (z := (S28.flat x).drop 5) rfl
  have a5 : S.at (a.add 5) [.slice x.2.2.2.2.1.a x.2.2.2.2.1.len x.2.2.2.2.1.cap] := at_sub ha ((S28.flat x).take 5) (z := (S28.flat x).drop 6) rfl
  refine pure_of ok Try.func16 (T16_eq (some a)) (wp_must (fun _ => rfl) (wp_load (r := x.2.1) (fun _ => Claim.at_and a1 l0 d0) (wp_dcall (p33 hb.cfg) ?_)))
  refine wp_must (fun _ => rfl) (wp_load (r := x.1) (fun _ => Claim.at_and a0 l0 d0) (wp_dcall p34 ?_))
  refine wp_must (fun _ => rfl) (wp_load (r := x.2.2.1) (fun _ => Claim.at_and a3 l0 d0) (wp_dcall (p35 hb.hs) ?_))
  refine wp_must (fun _ => rfl) (wp_load (r := x.2.2.2.1) (fun _ => Claim.at_and a4 l0 d0) (wp_dcall (p36 hb.vs) ?_))
  refine wp_must (fun _ => rfl) (wp_load (r := x.2.2.2.2.1) (fun _ => Claim.at_and a5 l0 d0) (wp_dcall (p37 hb.es) (wp_ret ?_)))
  exact may_end
theorem p20 (hk : KNode S x cs hs vs es) : PureAt cx.P 20 [S28.enc x] S .bool (spareMay x.1 x.2.1.1 cs hs vs es) := by
  have hb := hk.and (Claim.le_refl S) (Claim.disj_none S)
  refine pure_of ok Try.func20 (T20_eq x) (wp_dcall (p39 hb.cfg) (wp_dcall (p40 hb.hs) (wp_dcall (p41 hb.vs) (wp_dcall (p42 hb.es) (wp_ret ?_)))))
  unfold spareMay siteIn
  simp only [ge_iff_le]
  cases confMay x.2.1.1 cs <;> cases decide ((0 : Int) ≤ x.1) <;> cases decide (x.1 < 3) <;> cases healthsMay hs 4 <;> cases viewMay vs <;> cases cacheMay es <;> rfl

/-- a site that is set -/
def Got (cs : List Site) (i : Int) (r : D52 × Bool) : Prop := (∃ p, 0 ≤ i ∧ cs[i.toNat]? = some p ∧ r = (p.1, true)) ∨ ((i < 0 ∨ cs[i.toNat]? = none) ∧ r.2 = false)
theorem c17 {G H : Claim} {a : Addr} {c : D23} {cs : List Site} {i : Int} (ha : (G.and H).at a (S23.flat c)) (hk : KCfg G c cs) (hd : G.disj H) :
    CallAt cx.P 17 [.pointer (some a), .int .i64 i] G H (.tup (.pair S52 .bool)) (fun (r : D52 × Bool) G' H' => G' = G ∧ H' = H ∧ Got cs i r) := by
  have a1 : (G.and H).at (a.add 1) [.slice c.2.a c.2.len c.2.cap] := at_sub ha [.int .i64 c.1] (z := []) rfl
  have hl := hk.len
  refine call_of ok Try.func17 (T17_eq (some a) i) (wp_must (fun _ => rfl) (wp_load (r := c.2) (fun _ => a1) (wp_cond (fun hc => ?_) (fun hc => ?_))))
  · refine wp_ret ⟨(((0 : Int), false, (0 : Int), ⟨none, 0, 0⟩), false), rfl, rfl, rfl, .inr ⟨?_, rfl⟩⟩
    by_cases h : i < 0
    · exact .inl h
    · simp [h] at hc
      exact .inr (List.getElem?_eq_none (by omega))
  · by_cases h : i < 0
    · simp [h] at hc
    · simp [h] at hc
      obtain ⟨p, hp, hat, _⟩ := hk.get (j := i) (by omega) hc
      exact wp_must (fun _ => rfl) (wp_load (r := c.2) (fun _ => a1) (wp_must (fun _ => ⟨by omega, hc, hk.row.some (by omega) hc⟩) (wp_load (r := p.1) (fun _ => Claim.at_and hat (Claim.le_refl _) hd) (wp_ret ⟨(p.1, true), rfl, rfl, rfl, .inl ⟨p, by omega, hp, rfl⟩⟩))))

/-! ### its own -/

def cand (n : Nat) (b : D82) (h : D85) : List D69 := bif h.1 && (!b.2 && decide (0 < b.1)) then [((n : Int), b.1)] else []
def cands : Nat → List D82 → List D85 → List D69
  | n, b :: bs, h :: hs => cand n b h ++ cands (n + 1) bs hs
  | _, _, _ => []

theorem c38 {G H G0 H0 : Claim} {s : Sl} {xs : List D69} {n : Nat} {b : D82} {h : D85} (hm : Mine H 70 S69 s xs) (hn : New G0 H0 s) (hg : G0.le G) (hk : H0.le H) (hb : xs.length ≤ 10) :
    CallAt cx.P 38 [.slice s.a s.len s.cap, .int .i64 (n : Int), .int .i64 b.1, .bool b.2, S85.enc h] G H .slice (fun r _ H' => Mine H' 70 S69 r (xs ++ cand n b h) ∧ New G0 H0 r ∧ H0.le H') := by
  refine call_of ok Try.func38 (T38_eq s n b.1 b.2 h) (wp_cond (fun hc => wp_ret ⟨s, rfl, ?_, hn, hk⟩) (fun hc => ?_))
  · have e : cand n b h = [] := by
      unfold cand
      have : (h.1 && (!b.2 && decide (0 < b.1))) = false := by
        revert hc
        cases h.1 <;> cases b.2 <;> simp
      rw [this]; rfl
    rw [e, List.append_nil]
    exact hm
  · have e : cand n b h = [((n : Int), b.1)] := by
      unfold cand
      have : (h.1 && (!b.2 && decide (0 < b.1))) = true := by
        revert hc
        cases h.1 <;> cases b.2 <;> simp
      rw [this]; rfl
    rw [e]
    refine wp_push (sh := S69) (x := (((n : Int), b.1) : D69)) (xs := xs) rfl rfl hm (by show xs.length + 1 ≤ maxLen; simp only [maxLen]; omega) (by show (xs.length + 1) * 16 ≤ 140737488355328; omega) (by decide) hg hk hn ?_
    intro G2 s2 H2 g1 m1 m2 m3 m4 m5 m6
    exact wp_ret ⟨s2, rfl, m1, m3, m4⟩
end Go.Ev.Spare
