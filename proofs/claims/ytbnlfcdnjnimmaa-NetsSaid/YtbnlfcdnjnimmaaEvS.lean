/- The framework, part S: owned memory in parts: a call that owns a part leaves the others as they are. -/
import Derived.Test.YtbnlfcdnjnimmaaEvP
namespace Go.Ev

theorem Claim.disj_symm {A B : Claim} (h : A.disj B) : B.disj A := fun b => (h b).symm
theorem Claim.disj_le {A B C : Claim} (h : A.disj B) (l : C.le B) : A.disj C := fun b => by
  rcases h b with h | h
  · exact .inl h
  · cases e : C b with
    | none => exact .inr rfl
    | some o => rw [l b o e] at h; cases h

/-- what is left of H without H1 -/
def Claim.sub (H H1 : Claim) : Claim := fun b => match H1 b with
  | some _ => Option.none
  | .none => H b

theorem Claim.sub_some {H H1 : Claim} {b : Nat} {o : Obj} : H.sub H1 b = some o ↔ H1 b = Option.none ∧ H b = some o := by
  unfold Claim.sub
  cases e : H1 b with
  | none => simp
  | some o' => simp

theorem Claim.and_some {A B : Claim} {b : Nat} {o : Obj} (h : (A.and B) b = some o) : B b = some o ∨ (B b = Option.none ∧ A b = some o) := by
  unfold Claim.and at h
  cases e : B b with
  | none => rw [e] at h; exact .inr ⟨rfl, h⟩
  | some o' => rw [e] at h; exact .inl h

section
variable {P : Program}

/-- a call that owns a part of H -/
theorem CallAt.part {f : FuncId} {args : List Value} {G H H1 : Claim} {sh : Sh} {R : sh.den → Claim → Claim → Prop} (hle : H1.le H) (h : CallAt P f args G H1 sh R) :
    CallAt P f args G H sh fun r G' H' => ∃ H1', R r G' H1' ∧ H1'.le H' ∧ ∀ X : Claim, X.le H → X.disj H1 → X.le H' ∧ X.disj H1' := by
  intro c hg hh hd hm
  refine (h c hg (fun b o e => hh b o (hle b o e)) (Claim.disj_le hd hle) (fun b o e => hm b o (hle b o e))).mono ?_
  rintro e c' ⟨r, G', H1', rfl, i, hR⟩
  have lt : ∀ {b : Nat}, H b ≠ none → b < c.heap.size := fun h => Claim.holds_lt hh h
  -- what is owned besides is not in H1'
  have apart : ∀ b o, H.sub H1 b = some o → H1' b = none := by
    intro b o e
    obtain ⟨e1, e2⟩ := Claim.sub_some.1 e
    cases e3 : H1' b with
    | none => rfl
    | some o' => exact absurd e1 (i.hold b (lt (by rw [e2]; simp)) (by rw [e3]; simp))
  refine ⟨r, G', (H.sub H1).and H1', rfl, ?_, H1', hR, ?_, ?_⟩
  · refine ⟨i.os, i.tape, i.output, i.size, fun b hb hn => ?_, i.mono, i.gholds, ?_, ?_, fun b hb hne => ?_, fun b hb hne => ?_, ?_⟩
    · refine i.frame b hb ?_
      cases e : H1 b with
      | none => rfl
      | some o => rw [hle b o e] at hn; cases hn
    · intro b o e
      rcases Claim.and_some e with e | ⟨_, e⟩
      · exact i.hholds b o e
      · obtain ⟨e1, e2⟩ := Claim.sub_some.1 e
        rw [i.frame b (lt (by rw [e2]; simp)) e1]
        exact hh b o e2
    · intro b
      cases e : ((H.sub H1).and H1') b with
      | none => exact .inr rfl
      | some o =>
        left
        rcases Claim.and_some e with e | ⟨_, e⟩
        · rcases i.disj b with h | h
          · exact h
          · rw [h] at e; cases e
        · obtain ⟨e1, e2⟩ := Claim.sub_some.1 e
          cases e3 : G' b with
          | none => rfl
          | some o' =>
            rcases i.gold b (lt (by rw [e2]; simp)) (by rw [e3]; simp) with h | h
            · rcases hd b with h' | h'
              · exact absurd h' h
              · rw [h'] at e2; cases e2
            · exact absurd e1 h
    · rcases i.gold b hb hne with h | h
      · exact .inl h
      · right
        cases e : H1 b with
        | none => exact absurd e h
        | some o => rw [hle b o e]; simp
    · cases e : ((H.sub H1).and H1') b with
      | none => exact absurd e hne
      | some o =>
        rcases Claim.and_some e with e | ⟨_, e⟩
        · have := i.hold b hb (by rw [e]; simp)
          cases e2 : H1 b with
          | none => exact absurd e2 this
          | some o => rw [hle b o e2]; simp
        · rw [(Claim.sub_some.1 e).2]; simp
    · intro b o e
      rcases Claim.and_some e with e | ⟨_, e⟩
      · exact i.mine b o e
      · exact hm b o (Claim.sub_some.1 e).2
  · exact Claim.le_and_right _ _
  · intro X hX hXd
    have key : ∀ b o, X b = some o → H.sub H1 b = some o := fun b o e => Claim.sub_some.2 ⟨by
      rcases hXd b with h | h
      · rw [h] at e; cases e
      · exact h, hX b o e⟩
    constructor
    · intro b o e
      unfold Claim.and
      rw [apart b o (key b o e)]
      exact key b o e
    · intro b
      cases e : X b with
      | none => exact .inl rfl
      | some o => exact .inr (apart b o (key b o e))

variable {E : Env} {G H : Claim} {Q : Value → Claim → Claim → Prop}

/-- .. as a rule -/
theorem wp_call_part {f : FuncId} {args args' : List Value} {sh : Sh} {k : sh.den → T} {R : sh.den → Claim → Claim → Prop} {H1 : Claim} (hle : H1.le H) (hp : CallAt P f args' G H1 sh R) (e : args = args')
    (h : ∀ r G' H' H1', G.le G' → G'.disj H' → R r G' H1' → H1'.le H' → (∀ X : Claim, X.le H → X.disj H1 → X.le H' ∧ X.disj H1') → (k r).wp P E G' H' Q) : (T.call f args sh k).wp P E G H Q := by
  subst e
  refine wp_call (hp.part hle) ?_
  rintro r G' H' g d ⟨H1', hR, l, hX⟩
  exact h r G' H' H1' g d hR l hX

theorem wp_callG_part {f : FuncId} {args args' : List Value} {sh : Sh} {k : sh.den → T} {R : sh.den → Claim → Claim → Prop} {H1 : Claim} {b : Bool} (hb : b = true) (hle : H1.le H) (hp : CallAt P f args' G H1 sh R) (e : args = args')
    (h : ∀ r G' H' H1', G.le G' → G'.disj H' → R r G' H1' → H1'.le H' → (∀ X : Claim, X.le H → X.disj H1 → X.le H' ∧ X.disj H1') → (k r).wp P E G' H' Q) : (T.callG b f args sh k).wp P E G H Q :=
  ⟨fun _ => by
    subst e
    refine ⟨_, hp.part hle, ?_⟩
    rintro r G' H' g d ⟨H1', hR, l, hX⟩
    exact h r G' H' H1' g d hR l hX, fun h => by rw [hb] at h; cases h⟩

theorem wp_newObj {o : Obj} {k : Nat → T} (hm : Obj.mine o = true) (h : ∀ n, G n = none → H n = none → (k n).wp P E G (H.upd n o) Q) : (T.newObj o k).wp P E G H Q := ⟨hm, h⟩

theorem CallAt.mono {f : FuncId} {args : List Value} {sh : Sh} {R R' : sh.den → Claim → Claim → Prop} (h : CallAt P f args G H sh R) (k : ∀ r G' H', R r G' H' → R' r G' H') : CallAt P f args G H sh R' := by
  intro c hg hh hd hm
  refine (h c hg hh hd hm).mono ?_
  rintro e c' ⟨r, G', H', rfl, i, hR⟩
  exact ⟨r, G', H', rfl, i, k _ _ _ hR⟩
end

theorem Claim.le_upd {H : Claim} {n : Nat} {o : Obj} (h : H n = Option.none) : H.le (H.upd n o) := fun b o' e => by
  rw [Claim.upd_ne _ _ (fun h' => by rw [h', h] at e; cases e)]; exact e
theorem Claim.none_le (H : Claim) : Claim.none.le H := fun _ _ e => by cases e
end Go.Ev
namespace Go.Ev
/-! ### small things -/
theorem toList_beq (a b : ByteArray) : (a.toList == b.toList) = (a == b) := (beq_toListBytes a b).symm
theorem beq_self (a : ByteArray) : (a == a) = true := (bytes_beq a a).2 rfl
theorem beq_nil (a : ByteArray) : (a == (⟨#[]⟩ : ByteArray)) = decide (a.size = 0) := by
  rw [Bool.eq_iff_iff, bytes_beq, decide_eq_true_eq]
  constructor
  · rintro rfl; rfl
  · intro h
    cases a with
    | mk d => congr 1; exact Array.eq_empty_of_size_eq_zero h
theorem at_field {S : Claim} {n o k : Nat} {cs : Array Value} {ty : TypeId} {e : Nat × Nat} {v : Value} (h : S n = some (.cells cs ty e)) (hv : cs[o + k]? = some v) : S.at ((⟨n, o, none⟩ : Addr).add k) [v] := by
  intro i w hw
  have : i = 0 ∧ w = v := by
    cases i with
    | zero => exact ⟨rfl, (Option.some.inj hw).symm⟩
    | succ i => simp at hw
  obtain ⟨rfl, rfl⟩ := this
  rw [Addr.add_zero, Addr.add_mk]
  unfold Claim.cell?
  simp only [h, Option.isSome_none, Bool.false_eq_true, if_false]
  exact hv
theorem wp_store_at {P : Program} {E : Env} {G H : Claim} {Q : Value → Claim → Claim → Prop} {a : Addr} {vs : List Value} {k : T} {n off : Nat} {c : Array Value} {ty : TypeId} (ea : a = ⟨n, off, none⟩) (h : H n = some (.cells c ty (0, 0))) (hle : off + vs.length ≤ c.size)
    (hk : k.wp P E G (H.upd n (.cells (c.toList.take off ++ vs ++ c.toList.drop (off + vs.length)).toArray ty (0, 0))) Q) : (T.store a vs k).wp P E G H Q := by
  subst ea
  exact ⟨c, ty, h, rfl, hle, hk⟩
theorem nil_in {b n c : Nat} (h : (⟨none, n, c⟩ : Sl).in b) : False := by
  obtain ⟨a, e, _⟩ := h
  cases e
theorem New.any (s : Sl) : New Claim.none Claim.none s := fun _ _ => ⟨rfl, rfl⟩
theorem Mine.len {H : Claim} {ty : TypeId} {sh : Sh} {s : Sl} {xs : List sh.den} (h : Mine H ty sh s xs) (h0 : 0 < sh.size) : s.len = xs.length := (h.rows h0).len
theorem Mine.upd {H : Claim} {ty : TypeId} {sh : Sh} {s : Sl} {xs : List sh.den} {n : Nat} {o : Obj} (h : Mine H ty sh s xs) (hn : ¬ s.in n) : Mine (H.upd n o) ty sh s xs :=
  h.keep fun b hb _ => Claim.upd_ne _ _ fun e => hn (by rw [← e]; exact hb)
end Go.Ev
namespace Go.Ev
theorem flatMap_take {sh : Sh} (xs : List sh.den) (k : Nat) : (xs.take k).flatMap sh.flat = (xs.flatMap sh.flat).take (k * sh.size) := by
  by_cases hk : k ≤ xs.length
  · have h := List.take_append_drop k xs
    have hl : ((xs.take k).flatMap sh.flat).length = k * sh.size := by rw [flatMap_length, List.length_take, Nat.min_eq_left hk]
    conv => rhs; rw [← h, List.flatMap_append, ← hl, List.take_left]
  · rw [List.take_of_length_le (by omega), List.take_of_length_le]
    rw [flatMap_length]
    exact Nat.mul_le_mul_right _ (by omega)

/-- the front of an owned row, with all the room behind it -/
theorem Mine.front {H : Claim} {ty : TypeId} {sh : Sh} {s : Sl} {xs : List sh.den} {k : Nat} (h : Mine H ty sh s xs) (h0 : 0 < sh.size) (hk : k ≤ xs.length) : Mine H ty sh ⟨s.a, k, s.cap⟩ (xs.take k) := by
  have hl := h.len h0
  obtain ⟨h1, h2⟩ := h
  refine ⟨?_, ?_⟩
  · rw [flatMap_length, List.length_take, Nat.min_eq_left hk]
  · rcases h2 with ⟨e1, e2⟩ | ⟨g, cur, e1, e2, e3, e4, e5, e6⟩
    · exact .inl ⟨by show k = 0; omega, e2⟩
    · refine .inr ⟨g, cur, e1, e2, by show k ≤ s.cap; omega, e4, e5, ?_⟩
      show cur.toList.take (k * sh.size) = _
      rw [flatMap_take, ← e6, List.take_take, Nat.min_eq_left (Nat.mul_le_mul_right _ (by omega))]

theorem Rows.drop {S : Claim} {sh : Sh} {s : Sl} {xs : List sh.den} {k : Nat} (h : Rows S sh s xs) (hk : k ≤ xs.length) (hc : s.len ≤ s.cap) :
    Rows S sh ⟨if s.cap = k then s.a else s.a.map (·.add (k * sh.size)), s.len - k, s.cap - k⟩ (xs.drop k) := by
  have hl := h.len
  have hs := h.small
  refine ⟨by simp [hl], by show s.len - k ≤ maxLen; omega, fun hne => ?_⟩
  have hlt : k < xs.length := by
    rcases Nat.lt_or_ge k xs.length with h' | h'
    · exact h'
    · exact absurd (List.drop_eq_nil_of_le h') hne
  obtain ⟨a, e, ha⟩ := h.at_ (by rintro rfl; simp at hlt)
  refine ⟨a.add (k * sh.size), ?_, ?_⟩
  · show (if s.cap = k then s.a else s.a.map (·.add (k * sh.size))) = _
    rw [if_neg (by omega), e]; rfl
  · have h2 := List.take_append_drop k xs
    rw [← h2, List.flatMap_append, Claim.at_append, flatMap_length, List.length_take, Nat.min_eq_left hk] at ha
    exact ha.2

theorem Mine.capOk {H : Claim} {ty : TypeId} {sh : Sh} {s : Sl} {xs : List sh.den} (h : Mine H ty sh s xs) : s.len ≤ s.cap ∧ s.cap ≤ maxLen := by
  obtain ⟨h1, h2⟩ := h
  rcases h2 with ⟨e1, e2⟩ | ⟨g, cur, e1, e2, e3, e4, e5, e6⟩
  · exact ⟨by omega, by simp only [maxLen]; omega⟩
  · exact ⟨e3, e4⟩
end Go.Ev
