/- The framework, part O: more rules for trees; rows of data in memory. -/
import Derived.Test.YtaeaipkjlhigmaaEvN
namespace Go.Ev

section
variable {P : Program} {E : Env} {G H : Claim} {Q : Value → Claim → Claim → Prop}

theorem wp_both {t u : T} (h1 : t.wp P E G H Q) (h2 : u.wp P E G H Q) : (T.both t u).wp P E G H Q := ⟨h1, h2⟩
theorem wp_dcallG {b : Bool} {f : FuncId} {args : List Value} {sh : Sh} {k : sh.den → T} {r : sh.den} {G1 H1 : Claim} (F : Frz G H G1 H1) (hp : PureAt P f args G1 sh r) (h : (k r).wp P E G1 H1 Q) : (T.dcallG b f args sh k).wp P E G H Q := ⟨G1, H1, F, r, fun _ => hp, h⟩
theorem wp_loadG {b : Bool} {sh : Sh} {a : Addr} {k : sh.den → T} {r : sh.den} {G1 H1 : Claim} (F : Frz G H G1 H1) (hp : b = true → G1.at a (sh.flat r)) (h : (k r).wp P E G1 H1 Q) : (T.loadG b sh a k).wp P E G H Q := ⟨G1, H1, F, r, hp, h⟩
theorem wp_lit {b : Bool} {cs : List Value} {ty : TypeId} {k : Nat → T} (h : ∀ n G', G.le G' → G'.disj H → G n = none → H n = none → (b = true → G' n = some (.cells cs.toArray ty (0, 0))) → (k n).wp P E G' H Q) : (T.lit b cs ty k).wp P E G H Q := h
theorem wp_new {cs : List Value} {ty : TypeId} {k : Nat → T} (h : ∀ n, G n = none → H n = none → (k n).wp P E G (H.upd n (.cells cs.toArray ty (0, 0))) Q) : (T.new cs ty k).wp P E G H Q := h
theorem wp_store {a : Addr} {vs : List Value} {k : T} {c : Array Value} {ty : TypeId} (h : H a.block = some (.cells c ty (0, 0))) (hs : a.spot = none) (hle : a.off + vs.length ≤ c.size)
    (hk : k.wp P E G (H.upd a.block (.cells (c.toList.take a.off ++ vs ++ c.toList.drop (a.off + vs.length)).toArray ty (0, 0))) Q) : (T.store a vs k).wp P E G H Q := ⟨c, ty, h, hs, hle, hk⟩

theorem Frz.of {G H : Claim} (d : G.disj H) (n : Nat) {o : Obj} (h : H n = some o) : Frz G H (G.upd n o) (H.del n) where
  le := by
    intro b o' e
    by_cases hb : b = n
    · subst hb
      rcases d b with h' | h'
      · rw [h'] at e; cases e
      · rw [h'] at h; cases h
    · rw [Claim.upd_ne _ _ hb]; exact e
  hle := by
    intro b o' e
    by_cases hb : b = n
    · subst hb; rw [Claim.del_same] at e; cases e
    · rw [Claim.del_ne _ hb] at e; exact e
  sub := by
    intro b o' e
    by_cases hb : b = n
    · subst hb
      rw [Claim.upd_same] at e
      cases e
      exact .inr h
    · rw [Claim.upd_ne _ _ hb] at e; exact .inl e
  disj := by
    intro b
    by_cases hb : b = n
    · subst hb; exact .inr (Claim.del_same _ _)
    · rw [Claim.upd_ne _ _ hb, Claim.del_ne _ hb]; exact d b

theorem Frz.inv {G H G' H' G2 H2 : Claim} {c c' : World} (f : Frz G H G' H') (i : Inv c G' H' c' G2 H2) : Inv c G H c' G2 H2 where
  os := i.os
  tape := i.tape
  output := i.output
  size := i.size
  frame := fun b hb hn => i.frame b hb (by
    cases e : H' b with
    | none => rfl
    | some o => rw [f.hle b o e] at hn; cases hn)
  mono := Claim.le_trans f.le i.mono
  gholds := i.gholds
  hholds := i.hholds
  disj := i.disj
  gold := fun b hb hne => by
    rcases i.gold b hb hne with h | h
    · cases e : G' b with
      | none => exact absurd e h
      | some o =>
        rcases f.sub b o e with e | e
        · exact .inl (by rw [e]; simp)
        · exact .inr (by rw [e]; simp)
    · cases e : H' b with
      | none => exact absurd e h
      | some o => exact .inr (by rw [f.hle b o e]; simp)
  hold := fun b hb hne => by
    have := i.hold b hb hne
    cases e : H' b with
    | none => exact absurd e this
    | some o => rw [f.hle b o e]; simp
  mine := i.mine

theorem Frz.call {G H G' H' : Claim} (f : Frz G H G' H') {fn : FuncId} {args : List Value} {sh : Sh} {R : sh.den → Claim → Claim → Prop} (h : CallAt P fn args G' H' sh R) : CallAt P fn args G H sh R := by
  intro c hg hh hd hm
  have hg' : G'.holds c := by
    intro b o e
    rcases f.sub b o e with e | e
    · exact hg b o e
    · exact hh b o e
  refine (h c hg' (fun b o e => hh b o (f.hle b o e)) f.disj (fun b o e => hm b o (f.hle b o e))).mono ?_
  rintro e c' ⟨r, G2, H2, rfl, i, hR⟩
  exact ⟨r, G2, H2, rfl, f.inv i, hR⟩
end

/-! ### numbers -/

theorem wrap_i64 {x : Int} (h0 : -9223372036854775808 ≤ x) (h1 : x < 9223372036854775808) : IntKind.i64.wrap x = x := by
  unfold IntKind.wrap
  simp only [IntKind.bits, IntKind.signed, Bool.true_and]
  split <;> (rename_i h; simp at h; omega)

/-! ### rows -/

/-- the row s holds the data xs, as far as the claim tells -/
structure Rows (S : Claim) (sh : Sh) (s : Sl) (xs : List sh.den) : Prop where
  len : s.len = xs.length
  small : s.len ≤ maxLen
  at_ : xs ≠ [] → ∃ a, s.a = some a ∧ S.at a (xs.flatMap sh.flat)

theorem Claim.at_le {S S' : Claim} (h : S.le S') {a : Addr} {vs : List Value} (k : S.at a vs) : S'.at a vs := fun i v e => Claim.cell_le h (k i v e)
theorem Rows.le {S S' : Claim} {sh : Sh} {s : Sl} {xs : List sh.den} (h : Rows S sh s xs) (l : S.le S') : Rows S' sh s xs :=
  ⟨h.len, h.small, fun hx => let ⟨a, e, k⟩ := h.at_ hx; ⟨a, e, Claim.at_le l k⟩⟩
theorem Addr.add_zero (a : Addr) : a.add 0 = a := by simp [Addr.add]
theorem Addr.add_add (a : Addr) (m n : Nat) : (a.add m).add n = a.add (m + n) := by
  by_cases hm : m = 0 <;> by_cases hn : n = 0 <;> simp [Addr.add, hm, hn, Nat.add_assoc]
theorem Addr.add_mk (g off n : Nat) : (⟨g, off, none⟩ : Addr).add n = ⟨g, off + n, none⟩ := by
  by_cases hn : n = 0 <;> simp [Addr.add, hn]

theorem Claim.at_append {S : Claim} {a : Addr} {u v : List Value} : S.at a (u ++ v) ↔ S.at a u ∧ S.at (a.add u.length) v := by
  constructor
  · intro h
    refine ⟨fun i x e => h i x ?_, fun i x e => ?_⟩
    · rw [List.getElem?_append_left (List.getElem?_eq_some_iff.1 e).1]; exact e
    · have := h (u.length + i) x (by rw [List.getElem?_append_right (by omega)]; simpa using e)
      rw [Addr.add_add]
      exact this
  · rintro ⟨h, k⟩ i x e
    by_cases hi : i < u.length
    · exact h i x (by rw [← e, List.getElem?_append_left hi])
    · have := k (i - u.length) x (by rw [← e, List.getElem?_append_right (by omega)])
      rw [Addr.add_add, show u.length + (i - u.length) = i from by omega] at this
      exact this


theorem flatMap_length {sh : Sh} (xs : List sh.den) : (xs.flatMap sh.flat).length = xs.length * sh.size := by
  induction xs with
  | nil => simp
  | cons x xs ih => simp [List.flatMap_cons, Sh.flat_length, ih, Nat.add_mul, Nat.add_comm]

theorem at_elem {S : Claim} {sh : Sh} : ∀ {xs : List sh.den} {a : Addr}, S.at a (xs.flatMap sh.flat) → ∀ (j : Nat) (x : sh.den), xs[j]? = some x → S.at (a.add (j * sh.size)) (sh.flat x)
  | [], a, h, j, x, e => by simp at e
  | y :: ys, a, h, j, x, e => by
    rw [List.flatMap_cons, Claim.at_append, Sh.flat_length] at h
    cases j with
    | zero =>
      simp at e
      subst e
      rw [Nat.zero_mul, Addr.add_zero]
      exact h.1
    | succ j =>
      have := at_elem h.2 j x (by simpa using e)
      rw [Addr.add_add] at this
      rwa [show sh.size + j * sh.size = (j + 1) * sh.size from by rw [Nat.add_mul]; omega] at this

/-- reading place j -/
theorem Rows.get {S : Claim} {sh : Sh} {s : Sl} {xs : List sh.den} (h : Rows S sh s xs) {j : Int} (h0 : 0 ≤ j) (h1 : j < (s.len : Int)) :
    ∃ x, xs[j.toNat]? = some x ∧ S.at ((s.a.getD ⟨0, 0, none⟩).add (j.toNat * sh.size)) (sh.flat x) := by
  have hlt : j.toNat < xs.length := by rw [← h.len]; omega
  refine ⟨xs[j.toNat], by simp [hlt], ?_⟩
  obtain ⟨a, e, k⟩ := h.at_ (by rintro rfl; simp at hlt)
  rw [e]
  exact at_elem k _ _ (by simp [hlt])
theorem Rows.some {S : Claim} {sh : Sh} {s : Sl} {xs : List sh.den} (h : Rows S sh s xs) {j : Int} (h0 : 0 ≤ j) (h1 : j < (s.len : Int)) : s.a.isSome = true := by
  have hlt : j.toNat < xs.length := by rw [← h.len]; omega
  obtain ⟨a, e, _⟩ := h.at_ (by rintro rfl; simp at hlt)
  rw [e]; rfl

theorem Rows.front {S : Claim} {sh : Sh} {q : Sl} {xs ys : List sh.den} (h : Rows S sh q (xs ++ ys)) : Rows S sh ⟨q.a, xs.length, q.cap⟩ xs := by
  have hl := h.len
  have hs := h.small
  refine ⟨rfl, ?_, fun hx => ?_⟩
  · rw [List.length_append] at hl
    show xs.length ≤ maxLen
    omega
  · obtain ⟨a, e, k⟩ := h.at_ (by intro e; exact hx (List.append_eq_nil_iff.1 e).1)
    refine ⟨a, e, ?_⟩
    rw [List.flatMap_append, Claim.at_append] at k
    exact k.1

/-- the row s is owned, and holds the data xs; there may be room behind them -/
def Mine (H : Claim) (ty : TypeId) (sh : Sh) (s : Sl) (xs : List sh.den) : Prop := Own H ty sh.size s (xs.flatMap sh.flat)

theorem Own.at_ {H : Claim} {ty : TypeId} {size : Nat} {s : Sl} {xs : List Value} (h : Own H ty size s xs) (hx : xs ≠ []) : ∃ a, s.a = some a ∧ H.at a xs := by
  obtain ⟨h1, h2⟩ := h
  rcases h2 with ⟨e, _⟩ | ⟨g, cur, e1, e2, e3, e4, e5, e6⟩
  · rw [e, Nat.zero_mul] at h1
    exact absurd (List.eq_nil_of_length_eq_zero h1) hx
  · refine ⟨_, e1, fun i v hv => ?_⟩
    rw [Addr.add_mk]
    unfold Claim.cell?
    simp only [e2, Option.isSome_none, Bool.false_eq_true, if_false, Nat.zero_add]
    rw [← e6] at hv
    rw [List.getElem?_take] at hv
    split at hv
    · simpa using hv
    · cases hv

theorem flat_ne {sh : Sh} (h0 : 0 < sh.size) {xs : List sh.den} (h : xs ≠ []) : xs.flatMap sh.flat ≠ [] := by
  intro e
  have := flatMap_length xs
  rw [e] at this
  rcases Nat.mul_eq_zero.1 (by simpa using this.symm) with h' | h'
  · exact h (List.eq_nil_of_length_eq_zero h')
  · omega

theorem Mine.rows {H : Claim} {ty : TypeId} {sh : Sh} {s : Sl} {xs : List sh.den} (h0 : 0 < sh.size) (h : Mine H ty sh s xs) : Rows H sh s xs := by
  have hl : s.len = xs.length := by
    have := h.1
    rw [flatMap_length] at this
    exact (Nat.eq_of_mul_eq_mul_right h0 this).symm
  refine ⟨hl, ?_, fun hx => Own.at_ h (flat_ne h0 hx)⟩
  rcases h.2 with ⟨e, _⟩ | ⟨g, cur, e1, e2, e3, e4, e5, e6⟩
  · omega
  · omega

theorem Mine.nil (H : Claim) (ty : TypeId) (sh : Sh) (a : Option Addr) : Mine H ty sh ⟨a, 0, 0⟩ [] := ⟨by simp, .inl ⟨rfl, rfl⟩⟩

/-- an append of data -/
theorem wp_append_cap {P : Program} {E : Env} {G H : Claim} {Q : Value → Claim → Claim → Prop} {ty : TypeId} {size bytes : Nat} {sh : Sh} {s x : Sl} {k : Sl → T} {xs ys : List sh.den} (hsz : size = sh.size)
    (hs : Mine H ty sh s xs) (hx : Rows (G.and H) sh x ys) (h63 : xs.length + ys.length ≤ maxLen) (h48 : (xs.length + ys.length) * bytes ≤ 140737488355328) (h0 : 0 < sh.size)
    (h : ∀ s' H', Mine H' ty sh s' (xs ++ ys) → s'.len = s.len + x.len → (∀ b, s'.in b → s.in b ∨ (G b = none ∧ H b = none)) → (∀ b, ¬ s'.in b → ¬ s.in b → H' b = H b) → (∀ b, ¬ s'.in b → s.in b → H' b = none) → ((s.len + x.len ≤ s.cap → s'.a = s.a ∧ s'.cap = s.cap) ∧ (x.len = 0 → s' = s ∧ H' = H)) → G.disj H' → (k s').wp P E G H' Q) :
    (T.append ty size bytes s x k).wp P E G H Q := by
  subst hsz
  have hl := (hs.rows h0).len
  refine ⟨xs.flatMap sh.flat, ys.flatMap sh.flat, hs, ?_, ?_, ?_, ?_, ?_, ?_⟩
  · rw [flatMap_length, hx.len]
  · intro v hv
    obtain ⟨y, _, hy⟩ := List.mem_flatMap.1 hv
    exact Sh.flat_one sh y v hy
  · intro hne
    exact hx.at_ (by rintro rfl; exact hne hx.len)
  · rw [hl, hx.len]; exact h63
  · rw [hl, hx.len]; exact h48
  · intro s' H' k1
    exact h s' H' (by unfold Mine; rw [List.flatMap_append]; exact k1)

/-- an append of data -/
theorem wp_append {P : Program} {E : Env} {G H : Claim} {Q : Value → Claim → Claim → Prop} {ty : TypeId} {size bytes : Nat} {sh : Sh} {s x : Sl} {k : Sl → T} {xs ys : List sh.den} (hsz : size = sh.size)
    (hs : Mine H ty sh s xs) (hx : Rows (G.and H) sh x ys) (h63 : xs.length + ys.length ≤ maxLen) (h48 : (xs.length + ys.length) * bytes ≤ 140737488355328) (h0 : 0 < sh.size)
    (h : ∀ s' H', Mine H' ty sh s' (xs ++ ys) → s'.len = s.len + x.len → (∀ b, s'.in b → s.in b ∨ (G b = none ∧ H b = none)) → (∀ b, ¬ s'.in b → ¬ s.in b → H' b = H b) → (∀ b, ¬ s'.in b → s.in b → H' b = none) → G.disj H' → (k s').wp P E G H' Q) :
    (T.append ty size bytes s x k).wp P E G H Q :=
  wp_append_cap hsz hs hx h63 h48 h0 fun s' H' m1 m2 m3 m4 m5 _ m7 => h s' H' m1 m2 m3 m4 m5 m7

theorem Rows.and {S G H : Claim} {sh : Sh} {s : Sl} {xs : List sh.den} (h : Rows S sh s xs) (l : S.le G) (d : G.disj H) : Rows (G.and H) sh s xs := h.le (Claim.le_trans l (Claim.le_and_left G H d))
theorem Claim.at_and {S G H : Claim} {a : Addr} {vs : List Value} (h : S.at a vs) (l : S.le G) (d : G.disj H) : (G.and H).at a vs := Claim.at_le (Claim.le_trans l (Claim.le_and_left G H d)) h

theorem at_of {G : Claim} {n : Nat} {cs : List Value} {ty : TypeId} {e : Nat × Nat} (h : G n = some (.cells cs.toArray ty e)) : G.at ⟨n, 0, none⟩ cs := by
  intro i v hv
  rw [Addr.add_mk]
  unfold Claim.cell?
  simp only [h, Nat.zero_add, Option.isSome_none, Bool.false_eq_true, if_false]
  rw [List.getElem?_toArray]
  exact hv
/-- the row's block is in neither claim -/
def New (G H : Claim) (s : Sl) : Prop := ∀ b, s.in b → G b = none ∧ H b = none
theorem New.nil (G H : Claim) (n c : Nat) : New G H ⟨none, n, c⟩ := fun b ⟨a, e, _⟩ => by cases e
theorem New.le {G G' H H' : Claim} {s : Sl} (h : New G' H' s) (l : G.le G') (k : H.le H') : New G H s := fun b hb => by
  obtain ⟨h1, h2⟩ := h b hb
  constructor
  · cases e : G b with
    | none => rfl
    | some o => rw [l b o e] at h1; cases h1
  · cases e : H b with
    | none => rfl
    | some o => rw [k b o e] at h2; cases h2

/-- what an append leaves alone -/
theorem wp_append' {P : Program} {E : Env} {G H : Claim} {Q : Value → Claim → Claim → Prop} {ty : TypeId} {size bytes : Nat} {sh : Sh} {s x : Sl} {k : Sl → T} {xs ys : List sh.den} {G0 H0 : Claim} (hsz : size = sh.size)
    (hs : Mine H ty sh s xs) (hx : Rows (G.and H) sh x ys) (h63 : xs.length + ys.length ≤ maxLen) (h48 : (xs.length + ys.length) * bytes ≤ 140737488355328) (h0 : 0 < sh.size) (hg : G0.le G) (hk : H0.le H) (hn : New G0 H0 s)
    (h : ∀ s' H', Mine H' ty sh s' (xs ++ ys) → s'.len = s.len + x.len → New G0 H0 s' → H0.le H' → (∀ b, ¬ s.in b → H b ≠ none → H' b = H b ∧ ¬ s'.in b) → G.disj H' → (k s').wp P E G H' Q) :
    (T.append ty size bytes s x k).wp P E G H Q := by
  refine wp_append hsz hs hx h63 h48 h0 fun s' H' m1 m2 m3 m4 m5 m6 => ?_
  have hoth : ∀ b, ¬ s.in b → H b ≠ none → H' b = H b ∧ ¬ s'.in b := by
    intro b hb hne
    have : ¬ s'.in b := fun hb' => by
      rcases m3 b hb' with h1 | h1
      · exact hb h1
      · exact hne h1.2
    exact ⟨m4 b this hb, this⟩
  have hnew : New G0 H0 s' := by
    intro b hb
    rcases m3 b hb with h1 | ⟨h1, h2⟩
    · exact hn b h1
    · constructor
      · cases e : G0 b with
        | none => rfl
        | some o => rw [hg b o e] at h1; cases h1
      · cases e : H0 b with
        | none => rfl
        | some o => rw [hk b o e] at h2; cases h2
  refine h s' H' m1 m2 hnew ?_ hoth m6
  intro b o e
  have := hk b o e
  rw [(hoth b (fun hb => by have := (hn b hb).2; rw [e] at this; cases this) (by rw [this]; simp)).1]
  exact this

/-- one datum more -/
theorem wp_push {P : Program} {E : Env} {G H : Claim} {Q : Value → Claim → Claim → Prop} {ty : TypeId} {size bytes : Nat} {sh : Sh} {s : Sl} {k : Sl → T} {xs : List sh.den} {x : sh.den} {G0 H0 : Claim} {cs : List Value} (hcs : cs = sh.flat x) (hsz : size = sh.size)
    (hs : Mine H ty sh s xs) (h63 : xs.length + 1 ≤ maxLen) (h48 : (xs.length + 1) * bytes ≤ 140737488355328) (h0 : 0 < sh.size) (hg : G0.le G) (hk : H0.le H) (hn : New G0 H0 s)
    (h : ∀ G' s' H', G.le G' → Mine H' ty sh s' (xs ++ [x]) → s'.len = s.len + 1 → New G0 H0 s' → H0.le H' → (∀ b, ¬ s.in b → H b ≠ none → H' b = H b ∧ ¬ s'.in b) → G'.disj H' → (k s').wp P E G' H' Q) :
    (T.lit true cs ty fun n => T.append ty size bytes s ⟨some ⟨n, 0, none⟩, 1, 1⟩ k).wp P E G H Q := by
  subst hcs
  refine wp_lit fun n G' hle hd hgn hhn hat => ?_
  refine wp_append' (ys := [x]) hsz hs ⟨rfl, (by show 1 ≤ maxLen; decide), fun _ => ⟨_, rfl, ?_⟩⟩ h63 h48 h0 (Claim.le_trans hg hle) hk hn (fun s' H' m1 m2 m3 m4 m5 m6 => h G' s' H' hle m1 m2 m3 m4 m5 m6)
  refine Claim.at_le (Claim.le_and_left _ _ hd) ?_
  rw [List.flatMap_cons, List.flatMap_nil, List.append_nil]
  exact at_of (hat rfl)

theorem Mine.keep {H H' : Claim} {ty : TypeId} {sh : Sh} {s : Sl} {xs : List sh.den} (h : Mine H ty sh s xs) (k : ∀ b, s.in b → H b ≠ none → H' b = H b) : Mine H' ty sh s xs := by
  obtain ⟨h1, h2⟩ := h
  refine ⟨h1, ?_⟩
  rcases h2 with h2 | ⟨g, cur, e1, e2, e3⟩
  · exact .inl h2
  · refine .inr ⟨g, cur, e1, ?_, e3⟩
    rw [k g ⟨_, e1, rfl⟩ (by rw [e2]; simp)]
    exact e2
theorem Mine.le {H H' : Claim} {ty : TypeId} {sh : Sh} {s : Sl} {xs : List sh.den} (h : Mine H ty sh s xs) (k : H.le H') : Mine H' ty sh s xs :=
  h.keep fun b _ hne => by
    cases e : H b with
    | none => exact absurd e hne
    | some o => exact k b o e

theorem upd_at (H : Claim) (n : Nat) (cs : List Value) (ty : TypeId) (e : Nat × Nat) : (H.upd n (.cells cs.toArray ty e)).at ⟨n, 0, none⟩ cs := at_of (Claim.upd_same _ _ _)
theorem disj_upd {G H : Claim} {n : Nat} {o : Obj} (d : G.disj H) (h : G n = none) : G.disj (H.upd n o) := by
  intro b
  by_cases hb : b = n
  · subst hb; exact .inl h
  · rw [Claim.upd_ne _ _ hb]; exact d b

/-- the number of the first for which p holds, counted from n; else -1 -/
def idx {α : Type} (p : α → Bool) : List α → Nat → Int
  | [], _ => -1
  | x :: r, n => bif p x then (n : Int) else idx p r (n + 1)

theorem idx_cons {α : Type} (p : α → Bool) (x : α) (r : List α) (n : Nat) : idx p (x :: r) n = bif p x then (n : Int) else idx p r (n + 1) := rfl
theorem wrap_next {i n : Nat} (h : (i : Int) < (n : Int)) (hn : n ≤ maxLen) : IntKind.i64.wrap ((i : Int) + 1) = ((i + 1 : Nat) : Int) := by
  simp only [maxLen] at hn
  rw [wrap_i64 (by omega) (by omega)]
  omega

/-! ### equality -/

def Sh.plain : Sh → Bool
  | .slice => false
  | .ptr => false
  | .chan => false
  | .pair a b => a.plain && b.plain
  | .agg s => s.plain
  | .tup s => s.plain
  | _ => true

theorem bytes_beq (a b : ByteArray) : (a == b) = true ↔ a = b := by
  cases a with
  | mk x => cases b with
    | mk y =>
      show (x == y) = true ↔ _
      rw [beq_iff_eq]
      simp

theorem eqDen_iff : ∀ {s : Sh}, s.plain = true → ∀ {a b : s.den}, eqDen s a b = true ↔ a = b
  | .unit, _, a, b => ⟨fun _ => rfl, fun _ => rfl⟩
  | .int _, _, a, b => @beq_iff_eq Int _ _ a b
  | .bool, _, a, b => @beq_iff_eq Bool _ _ a b
  | .str, _, a, b => bytes_beq a b
  | .slice, h, _, _ => by cases h
  | .ptr, h, _, _ => by cases h
  | .chan, h, _, _ => by cases h
  | .pair s t, h, a, b => by
    simp only [Sh.plain, Bool.and_eq_true] at h
    show (eqDen s a.1 b.1 && eqDen t a.2 b.2) = true ↔ _
    rw [Bool.and_eq_true, eqDen_iff h.1, eqDen_iff h.2]
    exact Prod.ext_iff.symm
  | .agg s, h, a, b => eqDen_iff (s := s) h
  | .tup s, h, a, b => eqDen_iff (s := s) h

/-! ### walks along a row -/

theorem drop_cons {α : Type} {xs : List α} {i : Nat} {x : α} (h : xs[i]? = some x) : xs.drop i = x :: xs.drop (i + 1) := by
  obtain ⟨hi, rfl⟩ := List.getElem?_eq_some_iff.1 h
  exact List.drop_eq_getElem_cons hi
theorem drop_none {α : Type} {xs : List α} {i : Nat} (h : xs.length ≤ i) : xs.drop i = [] := List.drop_eq_nil_of_le h

end Go.Ev
