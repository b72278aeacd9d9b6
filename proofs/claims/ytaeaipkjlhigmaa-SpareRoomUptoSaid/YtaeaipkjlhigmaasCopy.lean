/- Copies: of what is set, of a node. -/
import Derived.Test.YtaeaipkjlhigmaasTarg
import Derived.Test.YtaeaipkjlhigmaasTree5
namespace Go.Ev.Spare
open Go Go.Ev Go.Proofs

def big : Nat := 2000000

theorem Claim.and_le {A B C : Claim} (h1 : A.le C) (h2 : B.le C) : (A.and B).le C := fun b o e => by
  rcases Claim.and_some e with h | ⟨_, h⟩
  · exact h2 b o h
  · exact h1 b o h
theorem Claim.disj_and {A B C : Claim} (h1 : A.disj C) (h2 : B.disj C) : (A.and B).disj C := fun b => by
  rcases h2 b with h | h
  · rcases h1 b with h' | h'
    · left
      unfold Claim.and
      rw [h]; exact h'
    · exact .inr h'
  · exact .inr h

def siteData (p : Site) : Int × Bool × Int × List D82 := (p.1.1, p.1.2.1, p.1.2.2.1, p.2)

theorem c15 {G H : Claim} {c : D23} {cs : List Site} (hk : KCfg G c cs) (h1 : cs.length ≤ big) (h2 : ∀ p ∈ cs, p.2.length ≤ big) :
    CallAt cx.P 15 [S23.enc c] G H S23 (fun (r : D23) G' _ => ∃ ds, r.1 = c.1 ∧ sameAs ds cs ∧ KCfg G' r ds ∧ H.le G') := by
  have hl := hk.len
  have hb1 : cs.length ≤ 2000000 := h1
  refine call_of ok Try.func15 (T15_eq c) ?_
  refine wp_loop (fun (v : Int × D23 × Unit) G' H' => ∃ (i : Nat) (acc : List Site) (B X : Claim), v.1 = i ∧ i ≤ cs.length ∧ v.2.1.1 = c.1 ∧ acc.map siteData = (cs.take i).map siteData ∧ Row G' B 53 S52 v.2.1.2 (acc.map (·.1)) ∧ B.le H' ∧ X.le H' ∧ X.disj B ∧ H.le X ∧ ∀ p ∈ acc, Rows X S82 p.1.2.2.2 p.2)
    (fun (v : Int × D23 × Unit) _ _ => cs.length - v.1.toNat)
    ⟨0, [], Claim.none, H, rfl, Nat.zero_le _, rfl, rfl, Row.nil _ _ _, Claim.none_le _, Claim.le_refl _, Claim.disj_none _, Claim.le_refl _, fun p hp => by cases hp⟩ ?_
  rintro ⟨v, r, u⟩ G' H' hle hd' ⟨i, acc, B, X, hv, hi, hr1, hacc, hrow, hB, hX, hXB, hHX, hkids⟩
  dsimp only at hv hr1 hrow
  subst hv
  have hal : acc.length = i := by
    have := congrArg List.length hacc
    simp only [List.length_map, List.length_take] at this
    omega
  refine wp_cond (fun hc2 => ?_) (fun hc2 => ?_)
  · have hc3 : (i : Int) < (c.2.len : Int) := by simpa using hc2
    have hsrc := hk.and hle hd'
    obtain ⟨p, (hp : cs[i]? = some p), hat, hkid⟩ := hsrc.get (j := (i : Int)) (by omega) hc3
    have hw := wrap_next hc3 hk.row.small
    have hb2 : p.2.length ≤ 2000000 := h2 p (List.mem_of_getElem? hp)
    refine wp_must (fun _ => ⟨(by show (0 : Int) ≤ (i : Int); omega), hc3, hsrc.row.some (j := (i : Int)) (by omega) hc3⟩) (wp_load (r := p.1) (fun _ => hat) (wp_lit fun n2 G2 g2 d2 _ _ hlit => ?_))
    refine wp_append_row (sh := S82) (xs := []) (ys := p.2) rfl (Claim.none_le _) d2 (Row.empty 83 S82 (hlit rfl)) ((hk.kid p (List.mem_of_getElem? hp)).and (Claim.le_trans hle g2) d2) (by show 0 + p.2.length ≤ maxLen; simp only [maxLen]; omega) (by show (0 + p.2.length) * 16 ≤ 140737488355328; omega) (by decide) ?_
    intro q3 H3 B3 m1 m2 m3 m4 m5
    have hq3 : Rows B3 S82 q3 p.2 := m1.m.rows (by decide)
    obtain ⟨x1, x2⟩ := m4 X hX (Claim.disj_none _)
    obtain ⟨b1, b2⟩ := m4 B hB (Claim.disj_none _)
    have hX3 : (X.and B3).le H3 := Claim.and_le x1 m3
    have hX3B : (X.and B3).disj B := Claim.disj_and hXB (Claim.disj_symm b2)
    refine wp_push_row (sh := S52) (x := ((p.1.1, p.1.2.1, p.1.2.2.1, q3) : D52)) (xs := acc.map (·.1)) rfl rfl b1 (hrow.le g2) (by show (acc.map (·.1)).length + 1 ≤ maxLen; rw [List.length_map]; simp only [maxLen]; omega) (by show ((acc.map (·.1)).length + 1) * 48 ≤ 140737488355328; rw [List.length_map]; omega) (by decide) ?_
    intro G4 q5 H4 B4 g4 n1 n2 n3 n4 n5
    obtain ⟨y1, y2⟩ := n4 (X.and B3) hX3 hX3B
    refine wp_again ⟨⟨i + 1, acc ++ [((p.1.1, p.1.2.1, p.1.2.2.1, q3), p.2)], B4, X.and B3, hw, by omega, hr1, ?_, ?_, n3, y1, y2, Claim.le_trans hHX (Claim.le_and_left X B3 x2), ?_⟩, ?_⟩
    · rw [List.map_append, hacc, List.take_add_one, hp, List.map_append]
      rfl
    · have e : (acc ++ [(((p.1.1, p.1.2.1, p.1.2.2.1, q3) : D52), p.2)]).map (·.1) = acc.map (·.1) ++ [((p.1.1, p.1.2.1, p.1.2.2.1, q3) : D52)] := by rw [List.map_append]; rfl
      show Row G4 B4 53 S52 q5 ((acc ++ [(((p.1.1, p.1.2.1, p.1.2.2.1, q3) : D52), p.2)]).map (·.1))
      exact cast (congrArg (fun l : List S52.den => Row G4 B4 53 S52 q5 l) e.symm) n1
    · intro q hq
      rw [List.mem_append] at hq
      rcases hq with hq | hq
      · exact (hkids q hq).le (Claim.le_and_left X B3 x2)
      · have : q = (((p.1.1, p.1.2.1, p.1.2.2.1, q3) : D52), p.2) := by simpa using hq
        subst this
        exact hq3.le (Claim.le_and_right X B3)
    · show cs.length - (IntKind.i64.wrap ((i : Int) + 1)).toNat < cs.length - ((i : Int)).toNat
      rw [hw]; omega
  · have hc3 : ¬ (i : Int) < (c.2.len : Int) := by simpa using hc2
    have hHX2 : X.le (G'.and H') := Claim.le_trans hX (Claim.le_and_right _ _)
    refine wp_pop (wp_ret_frz (Frz.all hd') ⟨r, rfl, acc, hr1, ?_, ⟨?_, fun p hp => (hkids p hp).le hHX2⟩, Claim.le_trans hHX hHX2⟩)
    · rw [List.take_of_length_le (by omega)] at hacc
      exact hacc
    · exact (hrow.m.rows (by decide)).le (Claim.le_trans hB (Claim.le_and_right _ _))

/-! ### a node -/

structure St (x : D28) (cs : List Site) (hs : List D85) (vs : List D90) (es : List D49) (G H : Claim) (r : Option D23) (a b c : Option Sl) (l m n : Option Nat) : Prop where
  d : G.disj H
  k : KNode G x cs hs vs es
  r : ∀ y, r = some y → ∃ ds, y.1 = x.2.1.1 ∧ sameAs ds cs ∧ KCfg (G.and H) y ds
  a : ∀ y, a = some y → Rows (G.and H) S85 y hs
  b : ∀ y, b = some y → Rows (G.and H) S90 y vs
  c : ∀ y, c = some y → Rows (G.and H) S49 y es
  l : ∀ y, l = some y → ∃ o, G y = some o
  m : ∀ y, m = some y → ∃ o, G y = some o
  n : ∀ y, n = some y → ∃ o, G y = some o

section
variable {x : D28} {cs : List Site} {hs : List D85} {vs : List D90} {es : List D49} {G H : Claim} {r : Option D23} {a b c : Option Sl} {l m n : Option Nat} {E : Env} {Q : Value → Claim → Claim → Prop}

theorem St.mono (s : St x cs hs vs es G H r a b c l m n) {G' H' : Claim} (g : G.le G') (d : G'.disj H') (k : (G.and H).le (G'.and H')) : St x cs hs vs es G' H' r a b c l m n where
  d := d
  k := s.k.le g
  r := fun y h => by obtain ⟨ds, h1, h2, h3⟩ := s.r y h; exact ⟨ds, h1, h2, h3.le k⟩
  a := fun y h => (s.a y h).le k
  b := fun y h => (s.b y h).le k
  c := fun y h => (s.c y h).le k
  l := fun y h => by obtain ⟨o, h⟩ := s.l y h; exact ⟨o, g _ _ h⟩
  m := fun y h => by obtain ⟨o, h⟩ := s.m y h; exact ⟨o, g _ _ h⟩
  n := fun y h => by obtain ⟨o, h⟩ := s.n y h; exact ⟨o, g _ _ h⟩

theorem and_grow {G G' H H' : Claim} (g : G.le G') (h : H.le H') (d : G'.disj H') : (G.and H).le (G'.and H') := Claim.and_le (Claim.le_trans g (Claim.le_and_left _ _ d)) (Claim.le_trans h (Claim.le_and_right _ _))

theorem St.lit (s : St x cs hs vs es G H r a b c l m n) {ty : TypeId} {k : Nat → T} (h : ∀ (y : Nat) G' H', St x cs hs vs es G' H' r a b c l m n → (∃ o, G' y = some o) → (k y).wp cx.P E G' H' Q) : (T.lit true [] ty k).wp cx.P E G H Q :=
  wp_lit fun y G' g d _ _ hl => h y G' H (s.mono g d (and_grow g (Claim.le_refl _) d)) ⟨_, hl rfl⟩
theorem St.app (s : St x cs hs vs es G H r a b c l m n) {ty : TypeId} {size bytes y : Nat} {sh : Sh} {src : Sl} {ys : List sh.den} {k : Sl → T} (hy : ∃ o, G y = some o) (hsz : size = sh.size) (hx : Rows (G.and H) sh src ys) (h63 : ys.length ≤ maxLen) (h48 : ys.length * bytes ≤ 140737488355328) (h0 : 0 < sh.size)
    (h : ∀ (q : Sl) G' H', St x cs hs vs es G' H' r a b c l m n → Rows (G'.and H') sh q ys → (k q).wp cx.P E G' H' Q) : (T.append ty size bytes ⟨some ⟨y, 0, none⟩, 0, 0⟩ src k).wp cx.P E G H Q := by
  obtain ⟨o, ho⟩ := hy
  refine wp_append_row (sh := sh) (xs := []) (ys := ys) hsz (Claim.none_le _) s.d (Row.empty ty sh ho) hx (by show 0 + ys.length ≤ maxLen; omega) (by show (0 + ys.length) * bytes ≤ _; rw [Nat.zero_add]; exact h48) h0 ?_
  intro q H' B' m1 m2 m3 m4 m5
  have hH := (m4 H (Claim.le_refl _) (Claim.disj_none _)).1
  exact h q G H' (s.mono (Claim.le_refl _) m5 (and_grow (Claim.le_refl _) hH m5)) ((m1.m.rows h0).le (Claim.le_trans m3 (Claim.le_and_right _ _)))

/-- how much a node holds -/
structure Few (cs : List Site) (hs : List D85) (vs : List D90) (es : List D49) : Prop where
  f1 : cs.length ≤ big
  f2 : ∀ p ∈ cs, p.2.length ≤ big
  f3 : hs.length ≤ big
  f4 : vs.length ≤ big
  f5 : es.length ≤ big

theorem St.call (s : St x cs hs vs es G H r a b c l m n) (f : Few cs hs vs es) {k : D23 → T} (h : ∀ (y : D23) G' H', St x cs hs vs es G' H' (some y) a b c l m n → (k y).wp cx.P E G' H' Q) : (T.call 15 [S23.enc x.2.1] S23 k).wp cx.P E G H Q := by
  refine wp_call (c15 s.k.cfg f.f1 f.f2) ?_
  rintro y G' H' g d ⟨ds, h1, h2, h3, h4⟩
  have hk : (G.and H).le (G'.and H') := Claim.le_trans (Claim.and_le g h4) (Claim.le_and_left _ _ d)
  have s' := s.mono g d hk
  exact h y G' H' ⟨s'.d, s'.k, fun z hz => by cases hz; exact ⟨ds, h1, h2, h3.le (Claim.le_and_left _ _ d)⟩, s'.a, s'.b, s'.c, s'.l, s'.m, s'.n⟩
theorem St.lit1 (s : St x cs hs vs es G H r a b c l m n) {k : Nat → T} (h : ∀ (y : Nat) G' H', St x cs hs vs es G' H' r a b c (some y) m n → (k y).wp cx.P E G' H' Q) : (T.lit true [] 86 k).wp cx.P E G H Q :=
  s.lit fun y G' H' s' hy => h y G' H' ⟨s'.d, s'.k, s'.r, s'.a, s'.b, s'.c, fun z hz => by cases hz; exact hy, s'.m, s'.n⟩
theorem St.lit2 (s : St x cs hs vs es G H r a b c l m n) {k : Nat → T} (h : ∀ (y : Nat) G' H', St x cs hs vs es G' H' r a b c l (some y) n → (k y).wp cx.P E G' H' Q) : (T.lit true [] 91 k).wp cx.P E G H Q :=
  s.lit fun y G' H' s' hy => h y G' H' ⟨s'.d, s'.k, s'.r, s'.a, s'.b, s'.c, s'.l, fun z hz => by cases hz; exact hy, s'.n⟩
theorem St.lit3 (s : St x cs hs vs es G H r a b c l m n) {k : Nat → T} (h : ∀ (y : Nat) G' H', St x cs hs vs es G' H' r a b c l m (some y) → (k y).wp cx.P E G' H' Q) : (T.lit true [] 50 k).wp cx.P E G H Q :=
  s.lit fun y G' H' s' hy => h y G' H' ⟨s'.d, s'.k, s'.r, s'.a, s'.b, s'.c, s'.l, s'.m, fun z hz => by cases hz; exact hy⟩
theorem St.app1 {y : Nat} (s : St x cs hs vs es G H r a b c (some y) m n) (f : Few cs hs vs es) {k : Sl → T} (h : ∀ (q : Sl) G' H', St x cs hs vs es G' H' r (some q) b c (some y) m n → (k q).wp cx.P E G' H' Q) : (T.append 86 2 16 ⟨some ⟨y, 0, none⟩, 0, 0⟩ x.2.2.1 k).wp cx.P E G H Q := by
  have hb : hs.length ≤ 2000000 := f.f3
  exact s.app (sh := S85) (s.l y rfl) rfl ((s.k.and (Claim.le_refl _) s.d).hs) (by show hs.length ≤ maxLen; simp only [maxLen]; omega) (by show hs.length * 16 ≤ 140737488355328; omega) (by decide) fun q G' H' s' hq => h q G' H' ⟨s'.d, s'.k, s'.r, fun z hz => by cases hz; exact hq, s'.b, s'.c, s'.l, s'.m, s'.n⟩
theorem St.app2 {y : Nat} (s : St x cs hs vs es G H r a b c l (some y) n) (f : Few cs hs vs es) {k : Sl → T} (h : ∀ (q : Sl) G' H', St x cs hs vs es G' H' r a (some q) c l (some y) n → (k q).wp cx.P E G' H' Q) : (T.append 91 5 40 ⟨some ⟨y, 0, none⟩, 0, 0⟩ x.2.2.2.1 k).wp cx.P E G H Q := by
  have hb : vs.length ≤ 2000000 := f.f4
  exact s.app (sh := S90) (s.m y rfl) rfl ((s.k.and (Claim.le_refl _) s.d).vs) (by show vs.length ≤ maxLen; simp only [maxLen]; omega) (by show vs.length * 40 ≤ 140737488355328; omega) (by decide) fun q G' H' s' hq => h q G' H' ⟨s'.d, s'.k, s'.r, s'.a, fun z hz => by cases hz; exact hq, s'.c, s'.l, s'.m, s'.n⟩
theorem St.app3 {y : Nat} (s : St x cs hs vs es G H r a b c l m (some y)) (f : Few cs hs vs es) {k : Sl → T} (h : ∀ (q : Sl) G' H', St x cs hs vs es G' H' r a b (some q) l m (some y) → (k q).wp cx.P E G' H' Q) : (T.append 50 9 72 ⟨some ⟨y, 0, none⟩, 0, 0⟩ x.2.2.2.2.1 k).wp cx.P E G H Q := by
  have hb : es.length ≤ 2000000 := f.f5
  exact s.app (sh := S49) (s.n y rfl) rfl ((s.k.and (Claim.le_refl _) s.d).es) (by show es.length ≤ maxLen; simp only [maxLen]; omega) (by show es.length * 72 ≤ 140737488355328; omega) (by decide) fun q G' H' s' hq => h q G' H' ⟨s'.d, s'.k, s'.r, s'.a, s'.b, fun z hz => by cases hz; exact hq, s'.l, s'.m, s'.n⟩

/-- a copy, known for good -/
def Copy (x : D28) (cs : List Site) (hs : List D85) (vs : List D90) (es : List D49) (y : D28) (G : Claim) : Prop :=
  y.1 = x.1 ∧ y.2.1.1 = x.2.1.1 ∧ y.2.2.2.2.2 = x.2.2.2.2.2 ∧ ∃ ds, sameAs ds cs ∧ KNode G y ds hs vs es

theorem St.done {y : D23} {q1 q2 q3 : Sl} (s : St x cs hs vs es G H (some y) (some q1) (some q2) (some q3) l m n) :
    (T.ret (.agg #[.int .i64 x.1, .int .i64 y.1, .slice y.2.a y.2.len y.2.cap, .slice q1.a q1.len q1.cap, .slice q2.a q2.len q2.cap, .slice q3.a q3.len q3.cap, .int .i64 x.2.2.2.2.2])).wp cx.P E G H (fun v G' _ => ∃ r, v = S28.enc r ∧ Copy x cs hs vs es r G') := by
  obtain ⟨ds, h1, h2, h3⟩ := s.r y rfl
  exact wp_ret_frz (Frz.all s.d) ⟨(x.1, y, q1, q2, q3, x.2.2.2.2.2), rfl, rfl, h1, rfl, ds, h2, ⟨h3, s.a q1 rfl, s.b q2 rfl, s.c q3 rfl⟩⟩
end

set_option maxRecDepth 100000 in
theorem c5 {G H : Claim} {x : D28} {cs : List Site} {hs : List D85} {vs : List D90} {es : List D49} (hk : KNode G x cs hs vs es) (hd : G.disj H) (f : Few cs hs vs es) :
    CallAt cx.P 5 [S28.enc x] G H S28 (fun y G' _ => Copy x cs hs vs es y G') := by
  have s0 : St x cs hs vs es G H none none none none none none none := ⟨hd, hk, fun _ h => (by cases h), fun _ h => (by cases h), fun _ h => (by cases h), fun _ h => (by cases h), fun _ h => (by cases h), fun _ h => (by cases h), fun _ h => (by cases h)⟩
  refine call_of ok Try.func5 (T5_eq x) ?_
  unfold T5
  repeat' (first
    | exact St.done (by assumption)
    | (refine wp_both ?_ ?_)
    | (refine St.lit1 (by assumption) ?_; intro _ _ _ _)
    | (refine St.lit2 (by assumption) ?_; intro _ _ _ _)
    | (refine St.lit3 (by assumption) ?_; intro _ _ _ _)
    | (refine St.app1 (by assumption) (by assumption) ?_; intro _ _ _ _)
    | (refine St.app2 (by assumption) (by assumption) ?_; intro _ _ _ _)
    | (refine St.app3 (by assumption) (by assumption) ?_; intro _ _ _ _)
    | (refine St.call (by assumption) (by assumption) ?_; intro _ _ _ _))
end Go.Ev.Spare
