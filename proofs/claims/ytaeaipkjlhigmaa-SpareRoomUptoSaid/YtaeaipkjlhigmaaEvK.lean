/- The framework, part K: code, and functions. -/
import Derived.Test.YtaeaipkjlhigmaaEvM
namespace Go.Ev

/-! ### the head of a loop -/

theorem setVars_keep : ∀ (l : List LV) (x : (varsSh l).den) (σ : St), (setVars l x σ).n = σ.n ∧ (setVars l x σ).gt = σ.gt ∧ (setVars l x σ).gs = σ.gs ∧ (setVars l x σ).next = σ.next ∧
    (setVars l x σ).lockT = σ.lockT ∧ (setVars l x σ).lockB = σ.lockB ∧ (∀ i, i ∉ slotsOf l → (setVars l x σ).t i = σ.t i) ∧ (∀ i, i ∉ boxesOf l → (setVars l x σ).box i = σ.box i)
  | [], x, σ => ⟨rfl, rfl, rfl, rfl, rfl, rfl, fun _ _ => rfl, fun _ _ => rfl⟩
  | .slot j sh :: l, x, σ => by
    obtain ⟨h1, h2, h3, h4, h5, h6, h7, h8⟩ := setVars_keep l x.2 { σ with t := upd σ.t j (.v (sh.enc x.1)) }
    refine ⟨h1, h2, h3, h4, h5, h6, fun i hi => ?_, fun i hi => h8 i hi⟩
    simp only [slotsOf, List.mem_cons, not_or] at hi
    exact (h7 i hi.2).trans (upd_ne _ _ hi.1)
  | .box j sh :: l, x, σ => by
    obtain ⟨h1, h2, h3, h4, h5, h6, h7, h8⟩ := setVars_keep l x.2 { σ with box := upd σ.box j (some (sh.flat x.1)) }
    refine ⟨h1, h2, h3, h4, h5, h6, fun i hi => h7 i hi, fun i hi => ?_⟩
    simp only [boxesOf, List.mem_cons, not_or] at hi
    exact (h8 i hi.2).trans (upd_ne _ _ hi.1)

theorem setVars_get : ∀ (l : List LV) (x : (varsSh l).den) (σ σ' : St), getVars l σ' = some x →
    (∀ i, i ∈ slotsOf l → (setVars l x σ).t i = σ'.t i ∧ ∃ v, σ'.t i = .v v) ∧ (∀ i, i ∈ boxesOf l → (setVars l x σ).box i = σ'.box i ∧ σ'.box i ≠ none)
  | [], x, σ, σ', _ => ⟨fun i hi => by simp [slotsOf] at hi, fun i hi => by simp [boxesOf] at hi⟩
  | .slot j sh :: l, x, σ, σ', h => by
    simp only [getVars] at h
    split at h
    · rename_i v hv
      split at h
      · rename_i y hy
        split at h
        · rename_i z hz
          have h' : x = (y, z) := (Option.some.inj h).symm
          subst h'
          obtain ⟨k1, k2⟩ := setVars_get l z { σ with t := upd σ.t j (.v (sh.enc y)) } σ' hz
          have hk := setVars_keep l z { σ with t := upd σ.t j (.v (sh.enc y)) }
          refine ⟨fun i hi => ?_, fun i hi => k2 i hi⟩
          by_cases hil : i ∈ slotsOf l
          · exact k1 i hil
          · simp only [slotsOf, List.mem_cons] at hi
            rcases hi with rfl | hi
            · refine ⟨?_, v, val?_some hv⟩
              show (setVars l z _).t i = _
              rw [hk.2.2.2.2.2.2.1 i hil, val?_some hv, ← Sh.dec_eq sh v y hy]
              exact upd_same _ _ _
            · exact absurd hi hil
        · cases h
      · cases h
    · cases h
  | .box j sh :: l, x, σ, σ', h => by
    simp only [getVars] at h
    split at h
    · rename_i cs hcs
      split at h
      · rename_i y hy
        split at h
        · rename_i z hz
          have h' : x = (y, z) := (Option.some.inj h).symm
          subst h'
          obtain ⟨k1, k2⟩ := setVars_get l z { σ with box := upd σ.box j (some (sh.flat y)) } σ' hz
          have hk := setVars_keep l z { σ with box := upd σ.box j (some (sh.flat y)) }
          refine ⟨fun i hi => k1 i hi, fun i hi => ?_⟩
          by_cases hil : i ∈ boxesOf l
          · exact k2 i hil
          · simp only [boxesOf, List.mem_cons] at hi
            rcases hi with rfl | hi
            · refine ⟨?_, by rw [hcs]; simp⟩
              show (setVars l z _).box i = _
              have e := Sh.deFlat_eq sh _ _ _ (done_eq hy)
              rw [List.append_nil] at e
              rw [hk.2.2.2.2.2.2.2 i hil, hcs, e]
              exact upd_same _ _ _
            · exact absurd hi hil
        · cases h
      · cases h
    · cases h

theorem apart_iff {l m : List Nat} : apart l m = true ↔ ∀ i ∈ l, i ∉ m := by
  unfold apart
  rw [List.all_eq_true]
  constructor
  · intro h i hi hm
    have := h i hi
    rw [memN_iff.2 hm] at this
    cases this
  · intro h i hi
    have := h i hi
    cases e : memN i m with
    | false => rfl
    | true => exact absurd (memN_iff.1 e) this

section
variable {cx : Cx} {fx : Fx} {c0 : World} {G0 H0 : Claim}

theorem Rel.weaken {B : Nat → Nat} {σ σ' : St} {G H : Claim} {a : Act} {c : World} (h : Rel c0 G0 H0 B σ' G H a c) (hn : σ.n = σ'.n) (hgt : σ.gt = noGV) (hwf : WF σ)
    (ht : ∀ i, σ.t i = .junk ∨ σ.t i = σ'.t i) (hbox : ∀ i, σ.box i = none ∨ σ.box i = σ'.box i) : Rel c0 G0 H0 B σ G H a c where
  inv := h.inv
  wf := hwf
  size := by rw [hn]; exact h.size
  defers := h.defers
  t := fun i => by
    rcases ht i with e | e
    · rw [e]; exact trivial
    · rw [e]; exact h.t i
  gt := fun i hi => by rw [hgt] at hi; exact absurd rfl hi
  box := fun id cs e => by
    rcases hbox id with e' | e'
    · rw [e'] at e; cases e
    · rw [e'] at e; exact h.box id cs e
  inj := fun i j hi hj e => by
    refine h.inj i j ?_ ?_ e
    · rcases hbox i with e' | e'
      · exact absurd e' hi
      · rw [← e']; exact hi
    · rcases hbox j with e' | e'
      · exact absurd e' hj
      · rw [← e']; exact hj

/-- the head of a loop, from the state at its entry, for the state in which it stands -/
theorem head_rel {B : Nat → Nat} {σ σ' : St} {G H : Claim} {a : Act} {c : World} {h : LoopHint} (hr : Rel c0 G0 H0 B σ' G H a c) (hwf : WF σ) (hok : hintOk h σ = true) {x0 : (varsSh h.vars).den} (hx0 : getVars h.vars σ = some x0)
    {y : (varsSh h.vars).den} (hy : getVars h.vars σ' = some y) (hn : σ'.n = σ.n) (hkT : ∀ i, i ∈ h.keepT ++ σ.lockT → σ'.t i = σ.t i) (hkB : ∀ i, i ∈ h.keepB ++ σ.lockB → σ'.box i = σ.box i) :
    Rel c0 G0 H0 B (headOf h σ y) G H a c := by
  simp only [hintOk, Bool.and_eq_true] at hok
  have hoT := apart_iff.1 hok.1
  have hoB := apart_iff.1 hok.2
  have k := setVars_keep h.vars y (St.mk σ.n (headT h σ) noGV [] (headB h σ) σ.next (h.keepT ++ σ.lockT) (h.keepB ++ σ.lockB))
  have g := setVars_get h.vars y (St.mk σ.n (headT h σ) noGV [] (headB h σ) σ.next (h.keepT ++ σ.lockT) (h.keepB ++ σ.lockB)) σ' hy
  have g0 := setVars_get h.vars x0 σ σ hx0
  obtain ⟨k1, k2, k3, k4, k5, k6, k7, k8⟩ := k
  have tcase : ∀ i, (∃ v, (headOf h σ y).t i = .v v ∧ (headOf h σ y).t i = σ'.t i) ∨ (headOf h σ y).t i = .junk ∨ ((headOf h σ y).t i = σ.t i ∧ (headOf h σ y).t i = σ'.t i) := by
    intro i
    by_cases hi : i ∈ slotsOf h.vars
    · obtain ⟨e, v, hv⟩ := g.1 i hi
      exact .inl ⟨v, by show (setVars _ _ _).t i = _; rw [e, hv], e⟩
    · have e : (headOf h σ y).t i = headT h σ i := k7 i hi
      rw [e]
      unfold headT
      cases hm : memN i (h.keepT ++ σ.lockT) with
      | false => exact .inr (.inl rfl)
      | true => exact .inr (.inr ⟨rfl, (hkT i (memN_iff.1 hm)).symm⟩)
  have bcase : ∀ i, (i ∈ boxesOf h.vars ∧ (headOf h σ y).box i = σ'.box i) ∨ (headOf h σ y).box i = none ∨ ((headOf h σ y).box i = σ.box i ∧ (headOf h σ y).box i = σ'.box i) := by
    intro i
    by_cases hi : i ∈ boxesOf h.vars
    · exact .inl ⟨hi, (g.2 i hi).1⟩
    · have e : (headOf h σ y).box i = headB h σ i := k8 i hi
      rw [e]
      unfold headB
      cases hm : memN i (h.keepB ++ σ.lockB) with
      | false => exact .inr (.inl rfl)
      | true => exact .inr (.inr ⟨rfl, (hkB i (memN_iff.1 hm)).symm⟩)
  refine hr.weaken (by show (setVars _ _ _).n = _; rw [k1, hn]) k2 ⟨?_, ?_, ?_⟩ ?_ ?_
  · intro i id off e
    show id < (setVars _ _ _).next
    rw [k4]
    rcases tcase i with ⟨v, h1, _⟩ | h1 | ⟨h1, _⟩
    · rw [h1] at e; cases e
    · rw [h1] at e; cases e
    · rw [h1] at e; exact hwf.t i id off e
  · intro i id off e
    have e2 : (headOf h σ y).gt = noGV := k2
    rw [e2] at e
    cases e
  · intro id hne
    show id < (setVars _ _ _).next
    rw [k4]
    rcases bcase id with ⟨h1, _⟩ | h1 | ⟨h1, _⟩
    · exact hwf.box id (g0.2 id h1).2
    · exact absurd h1 hne
    · rw [h1] at hne; exact hwf.box id hne
  · intro i
    rcases tcase i with ⟨v, _, h2⟩ | h1 | ⟨_, h2⟩
    · exact .inr h2
    · exact .inl h1
    · exact .inr h2
  · intro i
    rcases bcase i with ⟨_, h2⟩ | h1 | ⟨_, h2⟩
    · exact .inr h2
    · exact .inl h1
    · exact .inr h2

theorem head_lock {h : LoopHint} {σ : St} (hok : hintOk h σ = true) (y : (varsSh h.vars).den) :
    (headOf h σ y).lockT = h.keepT ++ σ.lockT ∧ (headOf h σ y).lockB = h.keepB ++ σ.lockB ∧ (headOf h σ y).n = σ.n ∧ (headOf h σ y).next = σ.next ∧
    (∀ i, i ∈ h.keepT ++ σ.lockT → (headOf h σ y).t i = σ.t i) ∧ (∀ i, i ∈ h.keepB ++ σ.lockB → (headOf h σ y).box i = σ.box i) := by
  simp only [hintOk, Bool.and_eq_true] at hok
  have hoT := apart_iff.1 hok.1
  have hoB := apart_iff.1 hok.2
  obtain ⟨k1, k2, k3, k4, k5, k6, k7, k8⟩ := setVars_keep h.vars y (St.mk σ.n (headT h σ) noGV [] (headB h σ) σ.next (h.keepT ++ σ.lockT) (h.keepB ++ σ.lockB))
  refine ⟨k5, k6, k1, k4, fun i hi => ?_, fun i hi => ?_⟩
  · refine (k7 i (fun hs => hoT i hs hi)).trans ?_
    show headT h σ i = _
    unfold headT
    rw [memN_iff.2 hi]
    rfl
  · refine (k8 i (fun hs => hoB i hs hi)).trans ?_
    show headB h σ i = _
    unfold headB
    rw [memN_iff.2 hi]
    rfl

/-- what holds behind a piece of code -/
def Px (P : Program) (c0 : World) (G0 H0 : Claim) (E : Env) (Q : Value → Claim → Claim → Prop) (σ : St) (G : Claim) (k : Exit → St → T) (e : Exit) (a' : Act) (c' : World) : Prop :=
  ∃ B' σ' G' H', Rel c0 G0 H0 B' σ' G' H' a' c' ∧ LockOK σ σ' ∧ G.le G' ∧ (k e σ').wp P E G' H' Q

theorem ev_sound (hgood : ∀ f, cx.good f = true → GoodFn cx.P f) (heq : ∀ t, cx.eqT t = true → EqOK cx t) (hmix : cx.P.follows .mixedOrders = true) {Q : Value → Claim → Claim → Prop} :
    ∀ (code : Code) {E : Env} {B : Nat → Nat} {σ : St} {G H : Claim} {a : Act} {c : World} {k : Exit → St → T}, Rel c0 G0 H0 B σ G H a c → (ev cx fx code σ k).wp cx.P E G H Q →
      code.wp cx.P (Px cx.P c0 G0 H0 E Q σ G k) a c
  | .skip, E, B, σ, G, H, a, c, k, hr, hw => wp_skip ⟨B, σ, G, H, hr, LockOK.refl _, Claim.le_refl _, hw⟩
  | .ret, E, B, σ, G, H, a, c, k, hr, hw => wp_ret ⟨B, σ, G, H, hr, LockOK.refl _, Claim.le_refl _, hw⟩
  | .exit id, E, B, σ, G, H, a, c, k, hr, hw => wp_exit ⟨B, σ, G, H, hr, LockOK.refl _, Claim.le_refl _, hw⟩
  | .seq x y, E, B, σ, G, H, a, c, k, hr, hw => by
    refine wp_seq (wp_mono (ev_sound hgood heq hmix x hr hw) ?_)
    rintro e a' c' ⟨B', σ', G', H', hR, hL, hle, hw'⟩
    cases e with
    | normal =>
      refine wp_mono (ev_sound hgood heq hmix y hR hw') ?_
      rintro e2 a2 c2 ⟨B2, σ2, G2, H2, hR2, hL2, hle2, hw2⟩
      exact ⟨B2, σ2, G2, H2, hR2, hL.trans hL2, Claim.le_trans hle hle2, hw2⟩
    | exit id => exact ⟨B', σ', G', H', hR, hL, hle, hw'⟩
    | ret => exact ⟨B', σ', G', H', hR, hL, hle, hw'⟩
    | goto l => exact hw'.elim
    | panic ch => exact hw'.elim
    | outgrown => exact hw'.elim
  | .block id x, E, B, σ, G, H, a, c, k, hr, hw => by
    refine wp_block (wp_mono (ev_sound hgood heq hmix x hr hw) ?_)
    rintro e a' c' ⟨B', σ', G', H', hR, hL, hle, hw'⟩
    cases e with
    | normal => exact ⟨B', σ', G', H', hR, hL, hle, hw'⟩
    | exit id' =>
      simp only [Exit.inBlock]
      cases hb : Nat.beq id' id with
      | true =>
        rw [if_pos (Nat.eq_of_beq_eq_true hb)]
        simp only [hb, cond_true] at hw'
        exact ⟨B', σ', G', H', hR, hL, hle, hw'⟩
      | false =>
        rw [if_neg (fun e => by rw [e] at hb; simp at hb)]
        simp only [hb, cond_false] at hw'
        exact ⟨B', σ', G', H', hR, hL, hle, hw'⟩
    | ret => exact ⟨B', σ', G', H', hR, hL, hle, hw'⟩
    | goto l => exact hw'.elim
    | panic ch => exact hw'.elim
    | outgrown => exact hw'.elim
  | .cond o x y, E, B, σ, G, H, a, c, k, hr, hw => by
    simp only [ev] at hw
    split at hw
    · rename_i t ht
      have hv := hr.rdv (g := []) (fun x hx => by cases hx) (bool?_some ht)
      obtain ⟨h1, h2⟩ := hw
      refine wp_cond hv ?_
      cases t with
      | true => exact ev_sound hgood heq hmix x hr (h1 rfl)
      | false => exact ev_sound hgood heq hmix y hr (h2 rfl)
    · exact hw.elim
  | .region id ops draw, E, B, σ, G, H, a, c, k, hr, hw => by
    cases draw with
    | true =>
      simp only [ev] at hw
      have hr' : Rel c0 G0 H0 B { σ with gt := noGV, gs := [] } G H a c := hr.weaken rfl rfl ⟨hr.wf.t, fun i id off e => (by cases e), hr.wf.box⟩ (fun _ => .inr rfl) (fun _ => .inr rfl)
      cases hqr : quietReg cx ops with
      | true =>
        rw [hqr] at hw
        simp only [cond_true] at hw
        cases hB : Region.lexB .any ops with
        | false => rw [hB] at hw; exact hw.elim
        | true =>
          rw [hB] at hw
          simp only [cond_true] at hw
          refine wp_region_quiet hmix hB (C := RowKit.Below c.heap.size c) ((RowKit.Below.refl _ _).drew) (quiet_sound hgood heq ops.toList hr' hw ?_)
          intro B' σ' a' hR hL hw' w' hC
          exact ⟨B', σ', G, H, hR.world (hR.inv.below hC), ⟨hL.1, hL.2.1, hL.2.2⟩, Claim.le_refl _, hw'⟩
      | false =>
        rw [hqr] at hw
        simp only [cond_false] at hw
        cases hsel : noSelL ops with
        | false => rw [hsel] at hw; exact hw.elim
        | true =>
          rw [hsel] at hw
          simp only [cond_true] at hw
          refine any_sound hgood heq hmix hsel hr' hw ?_
          intro B' σ' G' H' a' c' hR hL hle hw'
          exact ⟨B', σ', G', H', hR, ⟨hL.1, hL.2.1, hL.2.2⟩, hle, hw'⟩
    | false =>
      simp only [ev] at hw
      have hr' : Rel c0 G0 H0 B { σ with gt := noGV, gs := [] } G H a c := hr.weaken rfl rfl ⟨hr.wf.t, fun i id off e => (by cases e), hr.wf.box⟩ (fun _ => .inr rfl) (fun _ => .inr rfl)
      have key := evOps_sound (Qx := Px cx.P c0 G0 H0 E Q σ G k) hgood heq ops.toList 0 (fun j => by simp) hr' hw (by
        rintro a' c' ⟨B', σ', G', H', hR, hL, hle, hw'⟩
        exact ⟨B', σ', G', H', hR, hL, hle, hw'⟩)
      rw [Array.length_toList, ← List.range_eq_range'] at key
      exact wp_region_opsWp key
  | .loop x, E, B, σ, G, H, a, c, k, hr, hw => by
    simp only [ev] at hw
    cases hok : hintOk (fx.loops (firstRegion x)) σ with
    | false => rw [hok] at hw; exact hw.elim
    | true =>
      rw [hok] at hw
      simp only [Bool.not_true, cond_false] at hw
      split at hw
      · rename_i x0 hx0
        obtain ⟨I, m, hI0, hbody⟩ := hw
        refine wp_loop_ghost (fun n a' c' => ∃ B' y G' H', Rel c0 G0 H0 B' (headOf (fx.loops (firstRegion x)) σ y) G' H' a' c' ∧ I y G' H' ∧ m y G' H' = n ∧ G.le G') (m x0 G H)
          ⟨B, x0, G, H, head_rel hr hr.wf hok hx0 hx0 rfl (fun _ _ => rfl) (fun _ _ => rfl), hI0, rfl, Claim.le_refl _⟩ ?_
        rintro n a' c' ⟨B', y, G', H', hR, hI, hm, hle⟩
        obtain ⟨l1, l2, l3, l4, l5, l6⟩ := head_lock hok y
        have hb := hbody y G' H' hle hR.inv.disj hI
        refine wp_mono (ev_sound hgood heq hmix x hR hb) ?_
        rintro e a2 c2 ⟨B2, σ2, G2, H2, hR2, hL2, hle2, hw2⟩
        obtain ⟨m1, m2, m3, m4, m5, m6⟩ := hL2
        have kT : ∀ i, i ∈ (fx.loops (firstRegion x)).keepT ++ σ.lockT → σ2.t i = σ.t i := fun i hi => (m1 i (by rw [l1]; exact memN_iff.2 hi)).trans (l5 i hi)
        have kB : ∀ i, i ∈ (fx.loops (firstRegion x)).keepB ++ σ.lockB → σ2.box i = σ.box i := fun i hi => (m2 i (by rw [l2]; exact memN_iff.2 hi)).trans (l6 i hi)
        have hLout : LockOK σ { σ2 with lockT := σ.lockT, lockB := σ.lockB } :=
          ⟨fun i hi => kT i (List.mem_append.2 (.inr (memN_iff.1 hi))), fun i hi => kB i (List.mem_append.2 (.inr (memN_iff.1 hi))), rfl, rfl, by rw [← l3]; exact m5, by rw [← l4]; exact m6⟩
        have hRout : Rel c0 G0 H0 B2 { σ2 with lockT := σ.lockT, lockB := σ.lockB } G2 H2 a2 c2 :=
          ⟨hR2.inv, ⟨hR2.wf.t, hR2.wf.gt, hR2.wf.box⟩, hR2.size, hR2.defers, hR2.t, hR2.gt, hR2.box, hR2.inj⟩
        cases e with
        | normal =>
          dsimp only at hw2
          split at hw2
          · rename_i z hz
            obtain ⟨hsh, hJ⟩ := hw2
            refine ⟨m z G2 H2, ?_, B2, z, G2, H2, head_rel hR2 hr.wf hok hx0 hz (by rw [m5, l3]) kT kB, hJ.1, rfl, ?_⟩
            · rw [← hm]; exact hJ.2
            · exact Claim.le_trans hle hle2
          · exact hw2.elim
        | exit id => exact ⟨B2, _, G2, H2, hRout, hLout, Claim.le_trans hle hle2, hw2⟩
        | ret => exact ⟨B2, _, G2, H2, hRout, hLout, Claim.le_trans hle hle2, hw2⟩
        | goto l => exact hw2.elim
        | panic ch => exact hw2.elim
        | outgrown => exact hw2.elim
      · exact hw.elim
  | .rangeFunc .., _, _, _, _, _, _, _, _, _, hw => hw.elim
  | .scope _, _, _, _, _, _, _, _, _, _, hw => hw.elim
  | .label _, _, _, _, _, _, _, _, _, _, hw => hw.elim
  | .goto _, _, _, _, _, _, _, _, _, _, hw => hw.elim
  | .refuse _, _, _, _, _, _, _, _, _, _, hw => hw.elim
end

end Go.Ev
