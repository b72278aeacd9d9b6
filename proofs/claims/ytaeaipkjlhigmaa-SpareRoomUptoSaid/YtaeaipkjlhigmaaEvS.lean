/- The framework, part S: owned memory in parts: a call that owns a part leaves the others as they are. -/
import Derived.Test.YtaeaipkjlhigmaaEvP
namespace Go.Ev

theorem Claim.disj_symm {A B : Claim} (h : A.disj B) : B.disj A := fun b => (h b).symm
theorem Claim.disj_le {A B C : Claim} (h : A.disj B) (l : C.le B) : A.disj C := fun b => by
  rcases h b with h | h
  · exact .inl h
  · cases e : C b with
    | none => exact .inr rfl
    | some o => rw [l b o e] at h; cases h

/-- what is left of H without H1 -/
def Claim.sub (H H1 : Claim) : Claim := fun b => match H1 b with
  | some _ => Option.none
  | .none => H b

theorem Claim.sub_some {H H1 : Claim} {b : Nat} {o : Obj} : H.sub H1 b = some o ↔ H1 b = Option.none ∧ H b = some o := by
  unfold Claim.sub
  cases e : H1 b with
  | none => simp
  | some o' => simp

theorem Claim.and_some {A B : Claim} {b : Nat} {o : Obj} (h : (A.and B) b = some o) : B b = some o ∨ (B b = Option.none ∧ A b = some o) := by
  unfold Claim.and at h
  cases e : B b with
  | none => rw [e] at h; exact .inr ⟨rfl, h⟩
  | some o' => rw [e] at h; exact .inl h

section
variable {P : Program}

/-- a call that owns a part of H -/
theorem CallAt.part {f : FuncId} {args : List Value} {G H H1 : Claim} {sh : Sh} {R : sh.den → Claim → Claim → Prop} (hle : H1.le H) (h : CallAt P f args G H1 sh R) :
    CallAt P f args G H sh fun r G' H' => ∃ H1', R r G' H1' ∧ H1'.le H' ∧ ∀ X : Claim, X.le H → X.disj H1 → X.le H' ∧ X.disj H1' := by
  intro c hg hh hd hm
  refine (h c hg (fun b o e => hh b o (hle b o e)) (Claim.disj_le hd hle) (fun b o e => hm b o (hle b o e))).mono ?_
  rintro e c' ⟨r, G', H1', rfl, i, hR⟩
  have lt : ∀ {b : Nat}, H b ≠ none → b < c.heap.size := fun h => Claim.holds_lt hh h
  -- what is owned besides is not in H1'
  have apart : ∀ b o, H.sub H1 b = some o → H1' b = none := by
    intro b o e
    obtain ⟨e1, e2⟩ := Claim.sub_some.1 e
    cases e3 : H1' b with
    | none => rfl
    | some o' => exact absurd e1 (i.hold b (lt (by rw [e2]; simp)) (by rw [e3]; simp))
  refine ⟨r, G', (H.sub H1).and H1', rfl, ?_, H1', hR, ?_, ?_⟩
  · refine ⟨i.os, i.tape, i.output, i.size, fun b hb hn => ?_, i.mono, i.gholds, ?_, ?_, fun b hb hne => ?_, fun b hb hne => ?_, ?_⟩
    · refine i.frame b hb ?_
      cases e : H1 b with
      | none => rfl
      | some o => rw [hle b o e] at hn; cases hn
    · intro b o e
      rcases Claim.and_some e with e | ⟨_, e⟩
      · exact i.hholds b o e
      · obtain ⟨e1, e2⟩ := Claim.sub_some.1 e
        rw [i.frame b (lt (by rw [e2]; simp)) e1]
        exact hh b o e2
    · intro b
      cases e : ((H.sub H1).and H1') b with
      | none => exact .inr rfl
      | some o =>
        left
        rcases Claim.and_some e with e | ⟨_, e⟩
        · rcases i.disj b with h | h
          · exact h
          · rw [h] at e; cases e
        · obtain ⟨e1, e2⟩ := Claim.sub_some.1 e
          cases e3 : G' b with
          | none => rfl
          | some o' =>
            rcases i.gold b (lt (by rw [e2]; simp)) (by rw [e3]; simp) with h | h
            · rcases hd b with h' | h'
              · exact absurd h' h
              · rw [h'] at e2; cases e2
            · exact absurd e1 h
    · rcases i.gold b hb hne with h | h
      · exact .inl h
      · right
        cases e : H1 b with
        | none => exact absurd e h
        | some o => rw [hle b o e]; simp
    · cases e : ((H.sub H1).and H1') b with
      | none => exact absurd e hne
      | some o =>
        rcases Claim.and_some e with e | ⟨_, e⟩
        · have := i.hold b hb (by rw [e]; simp)
          cases e2 : H1 b with
          | none => exact absurd e2 this
          | some o => rw [hle b o e2]; simp
        · rw [(Claim.sub_some.1 e).2]; simp
    · intro b o e
      rcases Claim.and_some e with e | ⟨_, e⟩
      · exact i.mine b o e
      · exact hm b o (Claim.sub_some.1 e).2
  · exact Claim.le_and_right _ _
  · intro X hX hXd
    have key : ∀ b o, X b = some o → H.sub H1 b = some o := fun b o e => Claim.sub_some.2 ⟨by
      rcases hXd b with h | h
      · rw [h] at e; cases e
      · exact h, hX b o e⟩
    constructor
    · intro b o e
      unfold Claim.and
      rw [apart b o (key b o e)]
      exact key b o e
    · intro b
      cases e : X b with
      | none => exact .inl rfl
      | some o => exact .inr (apart b o (key b o e))

variable {E : Env} {G H : Claim} {Q : Value → Claim → Claim → Prop}

/-- .. as a rule -/
theorem wp_call_part {f : FuncId} {args args' : List Value} {sh : Sh} {k : sh.den → T} {R : sh.den → Claim → Claim → Prop} {H1 : Claim} (hle : H1.le H) (hp : CallAt P f args' G H1 sh R) (e : args = args')
    (h : ∀ r G' H' H1', G.le G' → G'.disj H' → R r G' H1' → H1'.le H' → (∀ X : Claim, X.le H → X.disj H1 → X.le H' ∧ X.disj H1') → (k r).wp P E G' H' Q) : (T.call f args sh k).wp P E G H Q := by
  subst e
  refine wp_call (hp.part hle) ?_
  rintro r G' H' g d ⟨H1', hR, l, hX⟩
  exact h r G' H' H1' g d hR l hX

theorem wp_callG_part {f : FuncId} {args args' : List Value} {sh : Sh} {k : sh.den → T} {R : sh.den → Claim → Claim → Prop} {H1 : Claim} {b : Bool} (hb : b = true) (hle : H1.le H) (hp : CallAt P f args' G H1 sh R) (e : args = args')
    (h : ∀ r G' H' H1', G.le G' → G'.disj H' → R r G' H1' → H1'.le H' → (∀ X : Claim, X.le H → X.disj H1 → X.le H' ∧ X.disj H1') → (k r).wp P E G' H' Q) : (T.callG b f args sh k).wp P E G H Q :=
  ⟨fun _ => by
    subst e
    refine ⟨_, hp.part hle, ?_⟩
    rintro r G' H' g d ⟨H1', hR, l, hX⟩
    exact h r G' H' H1' g d hR l hX, fun h => by rw [hb] at h; cases h⟩

theorem wp_newObj {o : Obj} {k : Nat → T} (hm : Obj.mine o = true) (h : ∀ n, G n = none → H n = none → (k n).wp P E G (H.upd n o) Q) : (T.newObj o k).wp P E G H Q := ⟨hm, h⟩

theorem CallAt.mono {f : FuncId} {args : List Value} {sh : Sh} {R R' : sh.den → Claim → Claim → Prop} (h : CallAt P f args G H sh R) (k : ∀ r G' H', R r G' H' → R' r G' H') : CallAt P f args G H sh R' := by
  intro c hg hh hd hm
  refine (h c hg hh hd hm).mono ?_
  rintro e c' ⟨r, G', H', rfl, i, hR⟩
  exact ⟨r, G', H', rfl, i, k _ _ _ hR⟩
end

theorem Claim.le_upd {H : Claim} {n : Nat} {o : Obj} (h : H n = Option.none) : H.le (H.upd n o) := fun b o' e => by
  rw [Claim.upd_ne _ _ (fun h' => by rw [h', h] at e; cases e)]; exact e
theorem Claim.none_le (H : Claim) : Claim.none.le H := fun _ _ e => by cases e
end Go.Ev
namespace Go.Ev
/-! ### small things -/
theorem toList_beq (a b : ByteArray) : (a.toList == b.toList) = (a == b) := (beq_toListBytes a b).symm
theorem beq_self (a : ByteArray) : (a == a) = true := (bytes_beq a a).2 rfl
theorem beq_nil (a : ByteArray) : (a == (⟨#[]⟩ : ByteArray)) = decide (a.size = 0) := by
  rw [Bool.eq_iff_iff, bytes_beq, decide_eq_true_eq]
  constructor
  · rintro rfl; rfl
  · intro h
    cases a with
    | mk d => congr 1; exact Array.eq_empty_of_size_eq_zero h
theorem at_field {S : Claim} {n o k : Nat} {cs : Array Value} {ty : TypeId} {e : Nat × Nat} {v : Value} (h : S n = some (.cells cs ty e)) (hv : cs[o + k]? = some v) : S.at ((⟨n, o, none⟩ : Addr).add k) [v] := by
  intro i w hw
  have : i = 0 ∧ w = v := by
    cases i with
    | zero => exact ⟨rfl, (Option.some.inj hw).symm⟩
    | succ i => simp at hw
  obtain ⟨rfl, rfl⟩ := this
  rw [Addr.add_zero, Addr.add_mk]
  unfold Claim.cell?
  simp only [h, Option.isSome_none, Bool.false_eq_true, if_false]
  exact hv
theorem wp_store_at {P : Program} {E : Env} {G H : Claim} {Q : Value → Claim → Claim → Prop} {a : Addr} {vs : List Value} {k : T} {n off : Nat} {c : Array Value} {ty : TypeId} (ea : a = ⟨n, off, none⟩) (h : H n = some (.cells c ty (0, 0))) (hle : off + vs.length ≤ c.size)
    (hk : k.wp P E G (H.upd n (.cells (c.toList.take off ++ vs ++ c.toList.drop (off + vs.length)).toArray ty (0, 0))) Q) : (T.store a vs k).wp P E G H Q := by
  subst ea
  exact ⟨c, ty, h, rfl, hle, hk⟩
theorem nil_in {b n c : Nat} (h : (⟨none, n, c⟩ : Sl).in b) : False := by
  obtain ⟨a, e, _⟩ := h
  cases e
theorem New.any (s : Sl) : New Claim.none Claim.none s := fun _ _ => ⟨rfl, rfl⟩
theorem Mine.len {H : Claim} {ty : TypeId} {sh : Sh} {s : Sl} {xs : List sh.den} (h : Mine H ty sh s xs) (h0 : 0 < sh.size) : s.len = xs.length := (h.rows h0).len
theorem Mine.upd {H : Claim} {ty : TypeId} {sh : Sh} {s : Sl} {xs : List sh.den} {n : Nat} {o : Obj} (h : Mine H ty sh s xs) (hn : ¬ s.in n) : Mine (H.upd n o) ty sh s xs :=
  h.keep fun b hb _ => Claim.upd_ne _ _ fun e => hn (by rw [← e]; exact hb)
end Go.Ev
namespace Go.Ev
theorem flatMap_take {sh : Sh} (xs : List sh.den) (k : Nat) : (xs.take k).flatMap sh.flat = (xs.flatMap sh.flat).take (k * sh.size) := by
  by_cases hk : k ≤ xs.length
  · have h := List.take_append_drop k xs
    have hl : ((xs.take k).flatMap sh.flat).length = k * sh.size := by rw [flatMap_length, List.length_take, Nat.min_eq_left hk]
    conv => rhs; rw [← h, List.flatMap_append, ← hl, List.take_left]
  · rw [List.take_of_length_le (by omega), List.take_of_length_le]
    rw [flatMap_length]
    exact Nat.mul_le_mul_right _ (by omega)

/-- the front of an owned row, with all the room behind it -/
theorem Mine.front {H : Claim} {ty : TypeId} {sh : Sh} {s : Sl} {xs : List sh.den} {k : Nat} (h : Mine H ty sh s xs) (h0 : 0 < sh.size) (hk : k ≤ xs.length) : Mine H ty sh ⟨s.a, k, s.cap⟩ (xs.take k) := by
  have hl := h.len h0
  obtain ⟨h1, h2⟩ := h
  refine ⟨?_, ?_⟩
  · rw [flatMap_length, List.length_take, Nat.min_eq_left hk]
  · rcases h2 with ⟨e1, e2⟩ | ⟨g, cur, e1, e2, e3, e4, e5, e6⟩
    · exact .inl ⟨by show k = 0; omega, e2⟩
    · refine .inr ⟨g, cur, e1, e2, by show k ≤ s.cap; omega, e4, e5, ?_⟩
      show cur.toList.take (k * sh.size) = _
      rw [flatMap_take, ← e6, List.take_take, Nat.min_eq_left (Nat.mul_le_mul_right _ (by omega))]

theorem Rows.drop {S : Claim} {sh : Sh} {s : Sl} {xs : List sh.den} {k : Nat} (h : Rows S sh s xs) (hk : k ≤ xs.length) (hc : s.len ≤ s.cap) :
    Rows S sh ⟨if s.cap = k then s.a else s.a.map (·.add (k * sh.size)), s.len - k, s.cap - k⟩ (xs.drop k) := by
  have hl := h.len
  have hs := h.small
  refine ⟨by simp [hl], by show s.len - k ≤ maxLen; omega, fun hne => ?_⟩
  have hlt : k < xs.length := by
    rcases Nat.lt_or_ge k xs.length with h' | h'
    · exact h'
    · exact absurd (List.drop_eq_nil_of_le h') hne
  obtain ⟨a, e, ha⟩ := h.at_ (by rintro rfl; simp at hlt)
  refine ⟨a.add (k * sh.size), ?_, ?_⟩
  · show (if s.cap = k then s.a else s.a.map (·.add (k * sh.size))) = _
    rw [if_neg (by omega), e]; rfl
  · have h2 := List.take_append_drop k xs
    rw [← h2, List.flatMap_append, Claim.at_append, flatMap_length, List.length_take, Nat.min_eq_left hk] at ha
    exact ha.2

theorem Mine.capOk {H : Claim} {ty : TypeId} {sh : Sh} {s : Sl} {xs : List sh.den} (h : Mine H ty sh s xs) : s.len ≤ s.cap ∧ s.cap ≤ maxLen := by
  obtain ⟨h1, h2⟩ := h
  rcases h2 with ⟨e1, e2⟩ | ⟨g, cur, e1, e2, e3, e4, e5, e6⟩
  · exact ⟨by omega, by simp only [maxLen]; omega⟩
  · exact ⟨e3, e4⟩
end Go.Ev
namespace Go.Ev
/-! ### rows that grow beside other owned memory -/
open Classical in
/-- what the row s has of H -/
noncomputable def Claim.of_row (H : Claim) (s : Sl) : Claim := fun b => if s.in b then H b else Option.none
theorem Claim.of_row_le (H : Claim) (s : Sl) : (H.of_row s).le H := fun b o e => by
  unfold Claim.of_row at e
  split at e
  · exact e
  · cases e
theorem Mine.of_row {H : Claim} {ty : TypeId} {sh : Sh} {s : Sl} {xs : List sh.den} (h : Mine H ty sh s xs) : Mine (H.of_row s) ty sh s xs := h.keep fun _ hb _ => if_pos hb

/-- the row s lies in B (or, if it has no place, in what stays) -/
structure Row (G B : Claim) (ty : TypeId) (sh : Sh) (s : Sl) (xs : List sh.den) : Prop where
  m : Mine B ty sh s xs
  p : ∀ b, s.in b → B b ≠ Option.none ∨ G b ≠ Option.none

theorem Row.nil (G : Claim) (ty : TypeId) (sh : Sh) : Row G Claim.none ty sh ⟨none, 0, 0⟩ [] := ⟨Mine.nil _ _ _ _, fun _ h => (nil_in h).elim⟩
theorem Row.le {G G' B : Claim} {ty : TypeId} {sh : Sh} {s : Sl} {xs : List sh.den} (h : Row G B ty sh s xs) (l : G.le G') : Row G' B ty sh s xs := ⟨h.m, fun b hb => (h.p b hb).imp id fun h => by
  cases e : G b with
  | none => exact absurd e h
  | some o => rw [l b o e]; simp⟩
theorem Row.apart {G H B X : Claim} {ty : TypeId} {sh : Sh} {s : Sl} {xs : List sh.den} (h : Row G B ty sh s xs) (hd : G.disj H) (hX : X.le H) (hXB : X.disj B) : ∀ b, s.in b → X b = Option.none := by
  intro b hb
  cases e : X b with
  | none => rfl
  | some o =>
    rcases h.p b hb with h | h
    · rcases hXB b with h' | h'
      · rw [h'] at e; cases e
      · exact absurd h' h
    · rcases hd b with h' | h'
      · exact absurd h' h
      · rw [hX b o e] at h'; cases h'
/-- a literal without places -/
theorem Row.empty {G : Claim} {n : Nat} {o : Obj} (ty : TypeId) (sh : Sh) (h : G n = some o) : Row G Claim.none ty sh ⟨some ⟨n, 0, none⟩, 0, 0⟩ [] := ⟨Mine.nil _ _ _ _, fun b ⟨a, e, e'⟩ => by
  cases e
  subst e'
  right
  show G n ≠ Option.none
  rw [h]; simp⟩
theorem Mine.in_ne {H : Claim} {ty : TypeId} {sh : Sh} {s : Sl} {xs : List sh.den} (h : Mine H ty sh s xs) (hl : s.len ≠ 0) : ∀ b, s.in b → H b ≠ Option.none := by
  rintro b ⟨a, e, rfl⟩
  obtain ⟨h1, h2⟩ := h
  rcases h2 with ⟨e1, _⟩ | ⟨g, cur, e1, e2, _⟩
  · exact absurd e1 hl
  · rw [e1] at e
    cases e
    rw [e2]
    simp

section
variable {P : Program} {E : Env} {G H B : Claim} {Q : Value → Claim → Claim → Prop}

theorem wp_append_row {ty : TypeId} {size bytes : Nat} {sh : Sh} {s x : Sl} {k : Sl → T} {xs ys : List sh.den} (hsz : size = sh.size) (hB : B.le H) (hd : G.disj H)
    (hs : Row G B ty sh s xs) (hx : Rows (G.and H) sh x ys) (h63 : xs.length + ys.length ≤ maxLen) (h48 : (xs.length + ys.length) * bytes ≤ 140737488355328) (h0 : 0 < sh.size)
    (h : ∀ s' H' B', Row G B' ty sh s' (xs ++ ys) → s'.len = s.len + x.len → B'.le H' → (∀ X : Claim, X.le H → X.disj B → X.le H' ∧ X.disj B') → G.disj H' → (k s').wp P E G H' Q) :
    (T.append ty size bytes s x k).wp P E G H Q := by
  refine wp_append_cap hsz (hs.m.le hB) hx h63 h48 h0 fun s' H' m1 m2 m3 m4 m5 m6 m7 => ?_
  by_cases hn : x.len = 0
  · -- nothing is appended
    have hys : ys = [] := List.eq_nil_of_length_eq_zero (by rw [← hx.len]; exact hn)
    obtain ⟨rfl, rfl⟩ := m6.2 hn
    subst hys
    exact h s' H' B ⟨by rw [List.append_nil]; exact hs.m, hs.p⟩ m2 hB (fun X hX hXB => ⟨hX, hXB⟩) m7
  · have hl : s'.len ≠ 0 := by rw [m2]; omega
    refine h s' H' (H'.of_row s') ⟨m1.of_row, fun b hb => .inl (by unfold Claim.of_row; rw [if_pos hb]; exact m1.in_ne hl b hb)⟩ m2 (Claim.of_row_le _ _) (fun X hX hXB => ?_) m7
    have ap := hs.apart hd hX hXB
    have key : ∀ b o, X b = some o → ¬ s'.in b ∧ ¬ s.in b := fun b o e => by
      have hb : ¬ s.in b := fun hb => by rw [ap b hb] at e; cases e
      refine ⟨fun hb' => ?_, hb⟩
      rcases m3 b hb' with h | h
      · exact hb h
      · rw [hX b o e] at h; cases h.2
    refine ⟨fun b o e => ?_, fun b => ?_⟩
    · obtain ⟨k1, k2⟩ := key b o e
      rw [m4 b k1 k2]; exact hX b o e
    · by_cases hb : s'.in b
      · left
        cases e : X b with
        | none => rfl
        | some o => exact absurd hb (key b o e).1
      · exact .inr (if_neg hb)

/-- one datum more -/
theorem wp_push_row {ty : TypeId} {size bytes : Nat} {sh : Sh} {s : Sl} {k : Sl → T} {xs : List sh.den} {x : sh.den} {cs : List Value} (hcs : cs = sh.flat x) (hsz : size = sh.size) (hB : B.le H)
    (hs : Row G B ty sh s xs) (h63 : xs.length + 1 ≤ maxLen) (h48 : (xs.length + 1) * bytes ≤ 140737488355328) (h0 : 0 < sh.size)
    (h : ∀ G' s' H' B', G.le G' → Row G' B' ty sh s' (xs ++ [x]) → s'.len = s.len + 1 → B'.le H' → (∀ X : Claim, X.le H → X.disj B → X.le H' ∧ X.disj B') → G'.disj H' → (k s').wp P E G' H' Q) :
    (T.lit true cs ty fun n => T.append ty size bytes s ⟨some ⟨n, 0, none⟩, 1, 1⟩ k).wp P E G H Q := by
  subst hcs
  refine wp_lit fun n G' hle hd hgn hhn hat => ?_
  refine wp_append_row (ys := [x]) hsz hB hd (hs.le hle) ⟨rfl, (by show 1 ≤ maxLen; decide), fun _ => ⟨_, rfl, ?_⟩⟩ h63 h48 h0 (fun s' H' B' m1 m2 m3 m4 m5 => h G' s' H' B' hle m1 m2 m3 m4 m5)
  refine Claim.at_le (Claim.le_and_left _ _ hd) ?_
  rw [List.flatMap_cons, List.flatMap_nil, List.append_nil]
  exact at_of (hat rfl)
end
theorem and_mask (x : Int) (m : Nat) (hm : m < 9223372036854775808) : ∃ k : Nat, bitsI .and .i64 x (m : Int) = k ∧ k ≤ m := by
  have h1 : (BitVec.ofInt 64 x &&& BitVec.ofInt 64 (m : Int)).toNat ≤ m := by
    rw [BitVec.toNat_and]
    refine Nat.le_trans Nat.and_le_right ?_
    rw [BitVec.toNat_ofInt]
    omega
  refine ⟨(BitVec.ofInt 64 x &&& BitVec.ofInt 64 (m : Int)).toNat, ?_, h1⟩
  show IntKind.i64.wrap (((BitVec.ofInt 64 x &&& BitVec.ofInt 64 (m : Int)).toNat : Nat) : Int) = _
  exact wrap_i64 (by omega) (by omega)
theorem flat_inj : ∀ {sh : Sh} {x y : sh.den}, sh.flat x = sh.flat y → x = y
  | .unit, _, _, _ => rfl
  | .int k, x, y, h => by
    have h' : [Value.int k x] = [Value.int k y] := h
    exact (Value.int.inj (List.cons.inj h').1).2
  | .bool, x, y, h => by
    have h' : [Value.bool x] = [Value.bool y] := h
    exact Value.bool.inj (List.cons.inj h').1
  | .str, x, y, h => by
    have h' : [Value.string x] = [Value.string y] := h
    exact Value.string.inj (List.cons.inj h').1
  | .slice, x, y, h => by
    have h' : [Value.slice (Sl.a x) (Sl.len x) (Sl.cap x)] = [Value.slice (Sl.a y) (Sl.len y) (Sl.cap y)] := h
    obtain ⟨e1, e2, e3⟩ := Value.slice.inj (List.cons.inj h').1
    cases x; cases y
    simp only at e1 e2 e3
    subst e1 e2 e3
    rfl
  | .ptr, x, y, h => by
    have h' : [Value.pointer x] = [Value.pointer y] := h
    exact Value.pointer.inj (List.cons.inj h').1
  | .chan, x, y, h => by
    have h' : [Value.chan x] = [Value.chan y] := h
    exact Value.chan.inj (List.cons.inj h').1
  | .pair a b, x, y, h => by
    have h' : a.flat x.1 ++ b.flat x.2 = a.flat y.1 ++ b.flat y.2 := h
    have := List.append_inj h' (by rw [Sh.flat_length, Sh.flat_length])
    exact Prod.ext (flat_inj this.1) (flat_inj this.2)
  | .agg s, _, _, h => flat_inj (sh := s) h
  | .tup s, _, _, h => flat_inj (sh := s) h
/-- what is read at a place is one -/
theorem at_inj {S : Claim} {a : Addr} {sh : Sh} {x y : sh.den} (h : S.at a (sh.flat x)) (k : S.at a (sh.flat y)) : x = y := by
  refine flat_inj (List.ext_getElem? fun i => ?_)
  have l1 := Sh.flat_length sh x
  have l2 := Sh.flat_length sh y
  by_cases hi : i < sh.size
  · obtain ⟨u, hu⟩ : ∃ u, (sh.flat x)[i]? = some u := ⟨_, List.getElem?_eq_getElem (by omega)⟩
    obtain ⟨v, hv⟩ : ∃ v, (sh.flat y)[i]? = some v := ⟨_, List.getElem?_eq_getElem (by omega)⟩
    have e1 := h i u hu
    have e2 := k i v hv
    rw [e1] at e2
    rw [hu, hv, e2]
  · rw [List.getElem?_eq_none (by omega), List.getElem?_eq_none (by omega)]
end Go.Ev
