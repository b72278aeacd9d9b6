/- The framework, part J: if the tree of a function is fine, the function does what the tree says. -/
import Derived.Test.YtaeaipkjlhigmaaEvR
import Derived.Deep.Quiet
namespace Go.Ev

section
variable {cx : Cx} {fx : Fx} {c0 : World} {G0 H0 : Claim} {E : Env} {Q : Value → Claim → Claim → Prop}

theorem Claim.and_mono {G G' H : Claim} (h : G.le G') : (G.and H).le (G'.and H) := by
  intro b o e
  unfold Claim.and at e ⊢
  split at e
  · rename_i o' ho; exact e
  · exact h b o e
theorem Claim.and_new {G H : Claim} {n : Nat} {o : Obj} (hg : G n = Option.none) (hh : H n = Option.none) : (G.and H).le (G.and (H.upd n o)) := by
  intro b o' e
  by_cases hb : b = n
  · subst hb
    unfold Claim.and at e
    rw [hh] at e
    rw [hg] at e
    cases e
  · unfold Claim.and at e ⊢
    rw [Claim.upd_ne _ _ hb]
    exact e

/-- behind a step -/
def Nx (P : Program) (c0 : World) (G0 H0 : Claim) (E : Env) (Q : Value → Claim → Claim → Prop) (σ : St) (G : Claim) (k : St → T) (a' : Act) (c' : World) : Prop :=
  ∃ B' σ' G' H', Rel c0 G0 H0 B' σ' G' H' a' c' ∧ LockOK σ σ' ∧ G.le G' ∧ (k σ').wp P E G' H' Q

/-- behind a step: what it left alone, too -/
def Nx2 (P : Program) (c0 : World) (G0 H0 : Claim) (E : Env) (Q : Value → Claim → Claim → Prop) (B : Nat → Nat) (σ : St) (G H : Claim) (c : World) (e : Eff) (k : St → T) (a' : Act) (c' : World) : Prop :=
  ∃ B' σ' G' H', Rel c0 G0 H0 B' σ' G' H' a' c' ∧ LockOK σ σ' ∧ G.le G' ∧ (k σ').wp P E G' H' Q ∧ (∀ id, id < σ.next → B' id = B id ∧ (σ'.box id ≠ none → σ.box id ≠ none)) ∧
    (∀ b, b < c.heap.size → H b = none → H' b = none) ∧ c.heap.size ≤ c'.heap.size ∧ (isSetbox e = false → ∀ b, b < c.heap.size → H b = none → c'.heap[b]? = c.heap[b]?) ∧
    (effKeeps e = true → (G.and H).le (G'.and H'))

theorem put_box {σ σ' : St} {dst : Option Nat} {g : List (Nat × Bool)} {b : Bool} {x : AVal} (h : σ.put dst g b x = some σ') : σ'.box = σ.box := by
  unfold St.put at h
  split at h
  · simp at h; rw [h]
  · rename_i d
    cases hc : (Nat.blt d σ.n && !memN d σ.lockT && !memN d σ.gs && bpOk σ.next x) with
    | false => rw [hc] at h; cases h
    | true =>
      rw [hc] at h
      simp only [cond_true] at h
      split at h
      · simp at h; rw [← h]
      · rename_i g0 g1
        cases hall : ((g0 :: g1).all fun y => !Nat.beq y.1 d) with
        | false => rw [hall] at h; cases h
        | true => rw [hall] at h; simp only [cond_true, Option.some.injEq] at h; rw [← h]

theorem match_put {P : Program} {σ : St} {dst : Option Nat} {g : List (Nat × Bool)} {b : Bool} {x : AVal} {k : St → T} {G H : Claim}
    (h : (match σ.put dst g b x with | some σ' => k σ' | none => T.stuck).wp P E G H Q) : ∃ σ', σ.put dst g b x = some σ' ∧ (k σ').wp P E G H Q := by
  split at h
  · rename_i σ' hs; exact ⟨σ', hs, h⟩
  · exact h.elim

theorem isNilG_eq {g : List (Nat × Bool)} (h : isNilG g = true) : g = [] := by
  cases g with
  | nil => rfl
  | cons x l => cases h

theorem step_sound {B : Nat → Nat} {σ : St} {G H : Claim} {a : Act} {c : World} (hr : Rel c0 G0 H0 B σ G H a c) {g : List (Nat × Bool)} {b : Bool} (hb : b = true ↔ Sat g a.tmps) (hn : g = [] → b = true)
    {o : Oper} {e : Eff} {run : Result Next} (hs : b = true → EffSem cx.P B c e run) {k : St → T} (hw : (stepT σ o.dst g b k e).wp cx.P E G H Q)
    {next : Act → World → Prop} (hN : ∀ a' c', Nx2 cx.P c0 G0 H0 E Q B σ G H c e k a' c' → next a' c') {Qx : Exit → Act → World → Prop} :
    (b = true → o.upon cx.P a next Qx run) ∧ (b = false → next (a.put o.dst undef) c) := by
  -- a value is put, in whatever world
  have fin : ∀ {x : AVal} {v : Value} {c' : World} {G' H' : Claim}, (effKeeps e = true → (G.and H).le (G'.and H')) → Inv c G H c' G' H' → (∃ σ', σ.put o.dst g b x = some σ' ∧ (k σ').wp cx.P E G' H' Q) → (b = true → vrel B x v) → (b = false → v = undef) → next (a.put o.dst v) c' := by
    intro x v c' G' H' hke hi hp h1 h2
    obtain ⟨σ', hp, hk⟩ := hp
    obtain ⟨hR, hL⟩ := put_spec (hr.world hi) hp hb hn h1 h2
    refine hN _ _ ⟨B, σ', G', H', hR, hL, hi.mono, hk, fun id _ => ⟨rfl, by rw [put_box hp]; exact fun h => h⟩, fun b hb hn => ?_, hi.size, fun _ b hb hn => hi.frame b hb hn, hke⟩
    cases hH : H' b with
    | none => rfl
    | some o => exact absurd hn (hi.hold b hb (by simp [hH]))
  have kself : effKeeps e = true → (G.and H).le (G.and H) := fun _ => Claim.le_refl _
  have kno : effKeeps e = false → ∀ {G' H' : Claim}, effKeeps e = true → (G.and H).le (G'.and H') := fun h G' H' h' => by rw [h] at h'; cases h'
  have hself := Inv.start hr.inv.gholds hr.inv.hholds hr.inv.disj hr.inv.mine
  cases e with
  | val x =>
    have hp := match_put hw
    refine ⟨fun hbt => ?_, fun hbf => fin (x := x) kself hself hp (fun h => by rw [hbf] at h; cases h) (fun _ => rfl)⟩
    obtain ⟨v, rfl, hv⟩ := hs hbt
    exact fin kself hself hp (fun _ => hv) (fun h => by rw [hbt] at h; cases h)
  | must p x =>
    obtain ⟨hpp, hw⟩ := hw
    have hp := match_put hw
    refine ⟨fun hbt => ?_, fun hbf => fin (x := x) kself hself hp (fun h => by rw [hbf] at h; cases h) (fun _ => rfl)⟩
    obtain ⟨v, rfl, hv⟩ := hs hbt (hpp hbt)
    exact fin kself hself hp (fun _ => hv) (fun h => by rw [hbt] at h; cases h)
  | dcall f args sh =>
    obtain ⟨r, hpure, hw⟩ := hw
    have hp := match_put hw
    refine ⟨fun hbt => ?_, fun hbf => fin (x := .v (sh.enc r)) kself hself hp (fun h => by rw [hbf] at h; cases h) (fun _ => rfl)⟩
    have hrun := hs hbt
    simp only [EffSem] at hrun
    rw [hrun, Oper.upon_enter]
    refine (hpure hbt c (Claim.holds_and hr.inv.gholds hr.inv.hholds)).mono ?_
    rintro e c' ⟨rfl, hbel⟩
    exact fin kself (hr.inv.below hbel) hp (fun _ => rfl) (fun h => by rw [hbt] at h; cases h)
  | call f args sh =>
    simp only [stepT] at hw
    cases hg : isNilG g with
    | false =>
      rw [hg] at hw
      obtain ⟨hw1, hw2⟩ := hw
      refine ⟨fun hbt => ?_, fun hbf => ?_⟩
      · obtain ⟨R, hcall, hw⟩ := hw1 hbt
        have hrun := hs hbt
        simp only [EffSem] at hrun
        rw [hrun, Oper.upon_enter]
        refine (hcall c hr.inv.gholds hr.inv.hholds hr.inv.disj hr.inv.mine).mono ?_
        rintro e c' ⟨r, G', H', rfl, hi, hR⟩
        exact fin (kno rfl) hi (match_put (hw r G' H' hi.mono hi.disj hR)) (fun _ => rfl) (fun h => by rw [hbt] at h; cases h)
      · obtain ⟨r, hw⟩ := hw2 hbf
        exact fin (x := .v (sh.enc r)) kself hself (match_put hw) (fun h => by rw [hbf] at h; cases h) (fun _ => rfl)
    | true =>
      rw [hg] at hw
      have hbt := hn (isNilG_eq hg)
      obtain ⟨R, hcall, hw⟩ := hw
      refine ⟨fun _ => ?_, fun hbf => by rw [hbt] at hbf; cases hbf⟩
      have hrun := hs hbt
      simp only [EffSem] at hrun
      rw [hrun, Oper.upon_enter]
      refine (hcall c hr.inv.gholds hr.inv.hholds hr.inv.disj hr.inv.mine).mono ?_
      rintro e c' ⟨r, G', H', rfl, hi, hR⟩
      exact fin (kno rfl) hi (match_put (hw r G' H' hi.mono hi.disj hR)) (fun _ => rfl) (fun h => by rw [hbt] at h; cases h)
  | load sh ad =>
    obtain ⟨r, hat, hw⟩ := hw
    have hp := match_put hw
    refine ⟨fun hbt => ?_, fun hbf => fin (x := .v (sh.enc r)) kself hself hp (fun h => by rw [hbf] at h; cases h) (fun _ => rfl)⟩
    have hrun := hs hbt r (fun i v hv => Claim.cell_of (Claim.holds_and hr.inv.gholds hr.inv.hholds) (hat hbt i v hv))
    rw [hrun]
    exact fin kself hself hp (fun _ => rfl) (fun h => by rw [hbt] at h; cases h)
  | loadStr p n =>
    simp only [stepT] at hw
    cases hg : isNilG g with
    | false => rw [hg] at hw; exact hw.elim
    | true =>
      rw [hg] at hw
      have hbt := hn (isNilG_eq hg)
      obtain ⟨s, hsz, hat, hw⟩ := hw
      refine ⟨fun _ => ?_, fun hbf => by rw [hbt] at hbf; cases hbf⟩
      have hrun := hs hbt s hsz (fun hne => by
        obtain ⟨a', e1, e2⟩ := hat hne
        exact ⟨a', e1, fun i v hv => Claim.cell_of (Claim.holds_and hr.inv.gholds hr.inv.hholds) (e2 i v hv)⟩)
      rw [hrun]
      exact fin kself hself (match_put hw) (fun _ => rfl) (fun h => by rw [hbt] at h; cases h)
  | store ad vs =>
    simp only [stepT] at hw
    cases hg : isNilG g with
    | false => rw [hg] at hw; exact hw.elim
    | true =>
      rw [hg] at hw
      have hbt := hn (isNilG_eq hg)
      refine ⟨fun _ => ?_, fun hbf => by rw [hbt] at hbf; cases hbf⟩
      cases hd : o.dst with
      | some d => rw [hd] at hw; exact hw.elim
      | none =>
        rw [hd] at hw
        obtain ⟨cur, ty, hH, hsp, hle, hw⟩ := hw
        have hrun := hs hbt cur ty (hr.inv.hholds _ _ hH) hsp hle
        rw [hrun, Oper.upon_skip, hd]
        have hi := hr.inv.setRow (cur' := (cur.toList.take ad.off ++ vs ++ cur.toList.drop (ad.off + vs.length)).toArray) hH
        refine hN _ _ ⟨B, σ, G, _, hr.world hi, LockOK.refl _, Claim.le_refl _, hw, fun id _ => ⟨rfl, fun h => h⟩, fun b hb hn => ?_, hi.size, fun _ b hb hn => hi.frame b hb hn, kno rfl⟩
        refine (Claim.upd_ne _ _ ?_).trans hn
        rintro rfl
        rw [hn] at hH; cases hH
  | setbox id off vs =>
    simp only [stepT] at hw
    cases hg : (isNilG g && !memN id σ.lockB) with
    | false => rw [hg] at hw; exact hw.elim
    | true =>
      rw [hg] at hw
      simp only [Bool.and_eq_true, Bool.not_eq_true'] at hg
      have hbt := hn (isNilG_eq hg.1)
      refine ⟨fun _ => ?_, fun hbf => by rw [hbt] at hbf; cases hbf⟩
      simp only [cond_true] at hw
      split at hw
      · rename_i cs hd hcs
        cases hle : Nat.ble (off + vs.length) cs.length with
        | false => rw [hle] at hw; exact hw.elim
        | true =>
          rw [hle] at hw
          rw [Nat.ble_eq] at hle
          obtain ⟨ty, k1, _⟩ := hr.box id cs hcs
          have hrun := hs hbt cs.toArray ty k1 (by simpa using hle)
          rw [hrun, Oper.upon_skip, hd]
          refine hN _ _ ⟨B, _, G, H, hr.setbox (cs' := splice cs off vs) hcs, ?_, Claim.le_refl _, hw, fun i _ => ⟨rfl, fun h e => ?_⟩, fun _ _ h => h, by simp, fun h => (by cases h), kself⟩
          rotate_left
          · by_cases ei : i = id
            · subst ei; rw [hcs] at e; cases e
            · exact h ((upd_ne _ _ ei).trans e)
          refine ⟨fun _ _ => rfl, fun i hi => ?_, rfl, rfl, rfl, Nat.le_refl _⟩
          by_cases e : i = id
          · subst e; rw [hg.2] at hi; cases hi
          · exact upd_ne _ _ e
      · exact hw.elim
  | newbox cs =>
    simp only [stepT] at hw
    cases hg : (isNilG g && cs.all Value.oneCell' && !memN σ.next σ.lockB) with
    | false => rw [hg] at hw; exact hw.elim
    | true =>
      rw [hg] at hw
      simp only [Bool.and_eq_true, Bool.not_eq_true'] at hg
      have hbt := hn (isNilG_eq hg.1.1)
      refine ⟨fun _ => ?_, fun hbf => by rw [hbt] at hbf; cases hbf⟩
      obtain ⟨ty, hrun⟩ := hs hbt
      rw [hrun, Oper.upon_value]
      obtain ⟨σ', hp, hk⟩ := match_put hw
      obtain ⟨hR, hL⟩ := put_spec (hr.newbox cs ty) hp hb hn (v := .pointer (some ⟨c.heap.size, 0, none⟩)) (fun _ => by show _ = _; rw [upd_same]) (fun h => by rw [hbt] at h; cases h)
      have hL0 : LockOK σ { σ with box := upd σ.box σ.next (some cs), next := σ.next + 1 } := by
        refine ⟨fun _ _ => rfl, fun i hi => ?_, rfl, rfl, rfl, Nat.le_succ _⟩
        by_cases e : i = σ.next
        · subst e; rw [hg.2] at hi; cases hi
        · exact upd_ne _ _ e
      have hbel := below_alloc c (.cells cs.toArray ty)
      refine hN _ _ ⟨_, σ', G, H, hR, hL0.trans hL, Claim.le_refl _, hk, fun i hi => ⟨upd_ne _ _ (by omega), fun h => ?_⟩, fun _ _ h => h, hbel.size, fun _ b hb _ => (hr.inv.below hbel).frame b hb ‹_›, kself⟩
      rw [put_box hp] at h
      exact fun e => h ((upd_ne _ _ (by omega)).trans e)
  | new cs ty =>
    simp only [stepT] at hw
    cases hg : (isNilG g && cs.all Value.oneCell') with
    | false => rw [hg] at hw; exact hw.elim
    | true =>
      rw [hg] at hw
      simp only [Bool.and_eq_true] at hg
      have hbt := hn (isNilG_eq hg.1)
      refine ⟨fun _ => ?_, fun hbf => by rw [hbt] at hbf; cases hbf⟩
      have hrun := hs hbt
      simp only [EffSem] at hrun
      rw [hrun, Oper.upon_value]
      have := hw c.heap.size (Claim.holds_none hr.inv.gholds (Nat.le_refl _)) (Claim.holds_none hr.inv.hholds (Nat.le_refl _))
      exact fin (fun _ => Claim.and_new (Claim.holds_none hr.inv.gholds (Nat.le_refl _)) (Claim.holds_none hr.inv.hholds (Nat.le_refl _))) (hr.inv.new _ rfl) (match_put this) (fun _ => rfl) (fun h => by rw [hbt] at h; cases h)
  | mk p cs ty len cap =>
    simp only [stepT] at hw
    cases hg : isNilG g with
    | false => rw [hg] at hw; exact hw.elim
    | true =>
      rw [hg] at hw
      have hbt := hn (isNilG_eq hg)
      obtain ⟨hp, hw⟩ := hw
      refine ⟨fun _ => ?_, fun hbf => by rw [hbt] at hbf; cases hbf⟩
      have hrun := hs hbt hp
      rw [hrun, Oper.upon_value]
      have := hw c.heap.size (Claim.holds_none hr.inv.gholds (Nat.le_refl _)) (Claim.holds_none hr.inv.hholds (Nat.le_refl _))
      exact fin (fun _ => Claim.and_new (Claim.holds_none hr.inv.gholds (Nat.le_refl _)) (Claim.holds_none hr.inv.hholds (Nat.le_refl _))) (hr.inv.new _ rfl) (match_put this) (fun _ => rfl) (fun h => by rw [hbt] at h; cases h)
  | lit cs ty len =>
    have hn' : H c.heap.size = none := Claim.holds_none hr.inv.hholds (Nat.le_refl _)
    have gn' : G c.heap.size = none := Claim.holds_none hr.inv.gholds (Nat.le_refl _)
    refine ⟨fun hbt => ?_, fun hbf => ?_⟩
    · have hrun := hs hbt
      simp only [EffSem] at hrun
      rw [hrun, Oper.upon_value]
      have hi := hr.inv.lit (.cells cs.toArray ty)
      have := hw c.heap.size _ hi.mono hi.disj gn' hn' (fun _ => Claim.upd_same _ _ _)
      exact fin (fun _ => Claim.and_mono hi.mono) hi (match_put this) (fun _ => rfl) (fun h => by rw [hbt] at h; cases h)
    · have := hw c.heap.size G (Claim.le_refl _) hr.inv.disj gn' hn' (fun h => by rw [hbf] at h; cases h)
      exact fin kself hself (match_put this) (fun h => by rw [hbf] at h; cases h) (fun _ => rfl)
  | append ty size bytes s x =>
    simp only [stepT] at hw
    cases hg : isNilG g with
    | false => rw [hg] at hw; exact hw.elim
    | true =>
      rw [hg] at hw
      have hbt := hn (isNilG_eq hg)
      refine ⟨fun _ => ?_, fun hbf => by rw [hbt] at hbf; cases hbf⟩
      obtain ⟨t, oty, i, z, h1, h2, h3, h4, h5, h6, h7, hrun⟩ := hs hbt
      obtain ⟨xs, ys, hown, hl, hone, hx, h63, h48, hw⟩ := hw
      obtain ⟨s', H', c', happ, hi, k1, k2, k3, k4, k5, k6⟩ := append_sound hr.inv h1 h2 h3 h4 h5 h6 h7 hown hl hone hx h63 h48
      rw [hrun, happ, Result.andThen_ok, Oper.upon_value]
      exact fin (kno rfl) hi (match_put (hw s' H' k1 k2 k3 k4 k5 k6 hi.disj)) (fun _ => rfl) (fun h => by rw [hbt] at h; cases h)
  | mkObj ob =>
    simp only [stepT] at hw
    cases hg : isNilG g with
    | false => rw [hg] at hw; exact hw.elim
    | true =>
      rw [hg] at hw
      have hbt := hn (isNilG_eq hg)
      refine ⟨fun _ => ?_, fun hbf => by rw [hbt] at hbf; cases hbf⟩
      obtain ⟨hrun, hm⟩ := hs hbt
      rw [hrun, Oper.upon_value]
      have := hw.2 c.heap.size (Claim.holds_none hr.inv.gholds (Nat.le_refl _)) (Claim.holds_none hr.inv.hholds (Nat.le_refl _))
      exact fin (kno rfl) (hr.inv.new _ hm) (match_put this) (fun _ => rfl) (fun h => by rw [hbt] at h; cases h)
  | clear x n vs =>
    simp only [stepT] at hw
    cases hg : isNilG g with
    | false => rw [hg] at hw; exact hw.elim
    | true =>
      rw [hg] at hw
      have hbt := hn (isNilG_eq hg)
      refine ⟨fun _ => ?_, fun hbf => by rw [hbt] at hbf; cases hbf⟩
      cases hd : o.dst with
      | some d => rw [hd] at hw; exact hw.elim
      | none =>
        rw [hd] at hw
        obtain ⟨hw0, hw1⟩ := hw
        obtain ⟨hs0, hs1⟩ := hs hbt
        by_cases h0 : n = 0
        · have hk := hw0 (by rw [h0]; rfl)
          rw [hs0 h0, Oper.upon_value, hd]
          exact hN _ _ ⟨B, σ, G, H, hr.world hself, LockOK.refl _, Claim.le_refl _, hk, fun id _ => ⟨rfl, fun h => h⟩, fun _ _ hn => hn, Nat.le_refl _, fun _ _ _ _ => rfl, kno rfl⟩
        · obtain ⟨hsm, cur, ty, hH, hsp, hle, hw⟩ := hw1 (by cases e : Nat.beq n 0 with
            | false => rfl
            | true => exact absurd (Nat.eq_of_beq_eq_true e) h0)
          obtain ⟨ad, hx⟩ := Option.isSome_iff_exists.1 hsm
          subst hx
          have hH' : H ad.block = some (.cells cur ty (0, 0)) := hH
          have hrun := hs1 h0 ad cur ty rfl (hr.inv.hholds _ _ hH') hsp hle
          rw [hrun, Oper.upon_value, hd]
          have hi := hr.inv.setRow (cur' := (cur.toList.take ad.off ++ vs ++ cur.toList.drop (ad.off + vs.length)).toArray) hH'
          refine hN _ _ ⟨B, σ, G, _, hr.world hi, LockOK.refl _, Claim.le_refl _, hw, fun id _ => ⟨rfl, fun h => h⟩, fun b hb hn => ?_, hi.size, fun _ b hb hn => hi.frame b hb hn, kno rfl⟩
          refine (Claim.upd_ne _ _ ?_).trans hn
          rintro rfl
          have hH2 : H ad.block = some (.cells cur ty (0, 0)) := hH'
          have hn2 : H ad.block = none := hn
          rw [hn2] at hH2; cases hH2
  | trySend x v => exact hw.elim
  | recv x => exact hw.elim
  | bad => exact hw.elim

theorem stepT_sound {B : Nat → Nat} {σ : St} {G H : Claim} {a : Act} {c : World} (hr : Rel c0 G0 H0 B σ G H a c) {g : List (Nat × Bool)} {b : Bool} (hb : b = true ↔ Sat g a.tmps) (hn : g = [] → b = true)
    {o : Oper} {e : Eff} {run : Result Next} (hs : b = true → EffSem cx.P B c e run) {k : St → T} (hw : (stepT σ o.dst g b k e).wp cx.P E G H Q)
    {next : Act → World → Prop} (hN : ∀ a' c', Nx cx.P c0 G0 H0 E Q σ G k a' c' → next a' c') {Qx : Exit → Act → World → Prop} :
    (b = true → o.upon cx.P a next Qx run) ∧ (b = false → next (a.put o.dst undef) c) :=
  step_sound hr hb hn hs hw (fun a' c' ⟨B', σ', G', H', h1, h2, h3, h4, _⟩ => hN a' c' ⟨B', σ', G', H', h1, h2, h3, h4⟩)

/-- one operation of a region of which the order is fixed -/
theorem stepC_sound {B : Nat → Nat} {σ : St} {G H : Claim} {a : Act} {c : World} (hr : Rel c0 G0 H0 B σ G H a c) {g : List (Nat × Bool)} {b : Bool} (hb : b = true ↔ Sat g a.tmps) (hn : g = [] → b = true)
    {ops : Array Oper} {Qx : Exit → Act → World → Prop} {i : Nat} {rest : List Nat} {o : Oper} {e : Eff} (ho : ops[i]? = some o) (hwant : Region.wanted o (yielded ops a.tmps) = b)
    (hs : b = true → EffSem cx.P B c e ((execOp a.eval o).run cx.P c)) {k : St → T} (hw : (stepC σ o.dst g b k e).wp cx.P E G H Q)
    (hN : ∀ a' c', Nx cx.P c0 G0 H0 E Q σ G k a' c' → OpsWp cx.P ops Qx rest a' c') : OpsWp cx.P ops Qx (i :: rest) a c := by
  have fin : ∀ {v : Value} {c' : World} {G' H' : Claim}, Inv c G H c' G' H' → b = true → (∃ σ', σ.put o.dst g b (.v v) = some σ' ∧ (k σ').wp cx.P E G' H' Q) → OpsWp cx.P ops Qx rest (a.put o.dst v) c' := by
    intro v c' G' H' hi hbt hp
    obtain ⟨σ', hp, hk⟩ := hp
    obtain ⟨hR, hL⟩ := put_spec (hr.world hi) hp hb hn (v := v) (fun _ => rfl) (fun h => by rw [hbt] at h; cases h)
    exact hN _ _ ⟨B, σ', G', H', hR, hL, hi.mono, hk⟩
  have plain : (stepT σ o.dst g b k e).wp cx.P E G H Q → OpsWp cx.P ops Qx (i :: rest) a c := by
    intro hw
    have := stepT_sound (Qx := fun _ _ _ => False) hr hb hn hs hw (next := fun a' c' => OpsWp cx.P ops Qx rest a' c') hN
    cases b with
    | true => exact opsWp_op ho hwant (this.1 rfl) fun _ _ h => h
    | false => exact opsWp_skip ho hwant (this.2 rfl)
  cases e with
  | trySend x v =>
    simp only [stepC] at hw
    cases hg : isNilG g with
    | false => rw [hg] at hw; exact hw.elim
    | true =>
      rw [hg] at hw
      have hbt := hn (isNilG_eq hg)
      obtain ⟨r, cap, buf, s, rc, tm, rfl, hH, h1, h2⟩ := hw
      obtain ⟨z, hrun⟩ := hs hbt
      have hc := hr.inv.hholds _ _ hH
      by_cases hroom : buf.size < cap
      · have hi := hr.inv.setObj (ob' := .chan cap (buf.push v) false (s + 1) rc tm) hH rfl
        exact opsWp_step (o := o) (fun b' k' cs' => step_send ho (hwant.trans hbt) hrun hc hroom) (fin hi hbt (match_put (h1 hroom)))
      · exact opsWp_step (o := o) (fun b' k' cs' => step_full ho (hwant.trans hbt) hrun hc hroom) (fin (Inv.start hr.inv.gholds hr.inv.hholds hr.inv.disj hr.inv.mine) hbt (match_put (h2 hroom)))
  | recv x =>
    simp only [stepC] at hw
    cases hg : isNilG g with
    | false => rw [hg] at hw; exact hw.elim
    | true =>
      rw [hg] at hw
      have hbt := hn (isNilG_eq hg)
      obtain ⟨r, cap, buf, cl, s, rc, tm, rfl, hH, hsome, h1⟩ := hw
      obtain ⟨z, hrun⟩ := hs hbt
      have hc := hr.inv.hholds _ _ hH
      have hi := hr.inv.setObj (ob' := .chan cap (buf.extract 1 buf.size) cl s (rc + 1) tm) hH rfl
      exact opsWp_step (o := o) (fun b' k' cs' => step_recv ho (hwant.trans hbt) hrun hc hsome) (fin hi hbt (match_put h1))
  | _ => exact plain hw

theorem evOps_sound (hgood : ∀ f, cx.good f = true → GoodFn cx.P f) (heq : ∀ t, cx.eqT t = true → EqOK cx t) {ops : Array Oper} {Qx : Exit → Act → World → Prop} :
    ∀ (l : List Oper) (n : Nat) {B : Nat → Nat} {σ : St} {G H : Claim} {a : Act} {c : World} {k : St → T}, (∀ j, l[j]? = ops[n + j]?) → Rel c0 G0 H0 B σ G H a c → (evOps cx fx ops l σ k).wp cx.P E G H Q →
      (∀ a' c', Nx cx.P c0 G0 H0 E Q σ G k a' c' → Qx .normal a' c') → OpsWp cx.P ops Qx (List.range' n l.length) a c
  | [], n, B, σ, G, H, a, c, k, hl, hr, hw, hk => opsWp_nil (hk a c ⟨B, σ, G, H, hr, LockOK.refl _, Claim.le_refl _, hw⟩)
  | o :: rest, n, B, σ, G, H, a, c, k, hl, hr, hw, hk => by
    simp only [evOps, evOp] at hw
    split at hw
    · exact hw.elim
    · rename_i g b hg
      obtain ⟨h1, h2, h3⟩ := guardOf_spec hr hg
      have hs : b = true → EffSem cx.P B c (effOf cx fx σ g o) ((execOp a.eval o).run cx.P c) := fun hb => eff_sound hr (h1.1 hb) hgood heq
      have ho : ops[n]? = some o := by simpa using (hl 0).symm
      rw [List.length_cons, List.range'_succ]
      refine stepC_sound (Qx := Qx) hr h1 h3 ho h2 hs hw fun a' c' hn => ?_
      obtain ⟨B', σ', G', H', hR, hL, hle, hw'⟩ := hn
      refine evOps_sound hgood heq rest (n + 1) (fun j => by have := hl (j + 1); rw [show n + (j + 1) = n + 1 + j from by omega] at this; simpa using this) hR hw' (fun a2 c2 hn2 => hk a2 c2 ?_)
      obtain ⟨B2, σ2, G2, H2, hR2, hL2, hle2, hw2⟩ := hn2
      exact ⟨B2, σ2, G2, H2, hR2, hL.trans hL2, Claim.le_trans hle hle2, hw2⟩

/-! ### regions whose order is open -/

theorem quiet_sound (hgood : ∀ f, cx.good f = true → GoodFn cx.P f) (heq : ∀ t, cx.eqT t = true → EqOK cx t) {ops : Array Oper} {c : World} {G H : Claim} {Qa : Act → Prop} :
    ∀ (l : List Oper) {B : Nat → Nat} {σ : St} {a : Act} {k : St → T}, Rel c0 G0 H0 B σ G H a c → (evOpsQ cx fx ops l σ k).wp cx.P E G H Q →
      (∀ B' σ' a', Rel c0 G0 H0 B' σ' G H a' c → LockOK σ σ' → (k σ').wp cx.P E G H Q → Qa a') → wpQuiet cx.P ops (RowKit.Below c.heap.size c) Qa l a
  | [], B, σ, a, k, hr, hw, hk => hk B σ a hr (LockOK.refl _) hw
  | o :: rest, B, σ, a, k, hr, hw, hk => by
    simp only [evOpsQ] at hw
    split at hw
    · exact hw.elim
    · rename_i g b hg
      obtain ⟨h1, h2, h3⟩ := guardOf_spec hr hg
      cases hq : effQuiet (effOf cx fx σ g o) with
      | false => rw [hq] at hw; exact hw.elim
      | true =>
        rw [hq] at hw
        simp only [cond_true] at hw
        -- in each world of the class
        have hs : b = true → ∀ w, RowKit.Below c.heap.size c w → Rel c0 G0 H0 B σ G H a w ∧ EffSem cx.P B w (effOf cx fx σ g o) ((execOp a.eval o).run cx.P w) := by
          intro hb w hw'
          have hR := hr.world (hr.inv.below hw')
          exact ⟨hR, eff_sound hR (h1.1 hb) hgood heq⟩
        -- a value is put
        have fin : ∀ {x : AVal} {v : Value}, (∃ σ', σ.put o.dst g b x = some σ' ∧ (evOpsQ cx fx ops rest σ' k).wp cx.P E G H Q) → (b = true → vrel B x v) → (b = false → v = undef) →
            wpQuiet cx.P ops (RowKit.Below c.heap.size c) Qa rest (a.put o.dst v) := by
          intro x v hp k1 k2
          obtain ⟨σ', hp, hk'⟩ := hp
          obtain ⟨hR, hL⟩ := put_spec hr hp h1 h3 k1 k2
          exact quiet_sound hgood heq rest hR hk' (fun B' σ2 a' hR2 hL2 hw2 => hk B' σ2 a' hR2 (hL.trans hL2) hw2)
        show if Region.wanted o (yielded ops a.tmps) then o.quiet cx.P a (RowKit.Below c.heap.size c) (wpQuiet cx.P ops (RowKit.Below c.heap.size c) Qa rest) else wpQuiet cx.P ops (RowKit.Below c.heap.size c) Qa rest (a.put o.dst undef)
        rw [h2]
        generalize he : effOf cx fx σ g o = e at hw hs hq
        have conc : ∀ x : AVal, x.isJunk = false → ∃ v, ∀ u, vrel B x u ↔ u = v := by
          intro x hx
          cases x with
          | v y => exact ⟨y, fun u => Iff.rfl⟩
          | bp id off => exact ⟨.pointer (some ⟨B id, off, none⟩), fun u => Iff.rfl⟩
          | junk => cases hx
        cases e with
        | val x =>
          have hp := match_put hw
          simp only [effQuiet, Bool.not_eq_true'] at hq
          obtain ⟨v, hv⟩ := conc x hq
          cases b with
          | false => exact fin hp (fun h => by cases h) (fun _ => rfl)
          | true =>
            refine ⟨v, fun w hw' => ?_, fin hp (fun _ => (hv v).2 rfl) (fun h => by cases h)⟩
            obtain ⟨u, hu, hvu⟩ := (hs rfl w hw').2
            unfold Oper.quietAt
            rw [hu]
            exact ⟨rfl, (hv u).1 hvu⟩
        | must p x =>
          obtain ⟨hpp, hw⟩ := hw
          have hp := match_put hw
          simp only [effQuiet, Bool.not_eq_true'] at hq
          obtain ⟨v, hv⟩ := conc x hq
          cases b with
          | false => exact fin hp (fun h => by cases h) (fun _ => rfl)
          | true =>
            refine ⟨v, fun w hw' => ?_, fin hp (fun _ => (hv v).2 rfl) (fun h => by cases h)⟩
            obtain ⟨u, hu, hvu⟩ := (hs rfl w hw').2 (hpp rfl)
            unfold Oper.quietAt
            rw [hu]
            exact ⟨rfl, (hv u).1 hvu⟩
        | dcall f args sh =>
          obtain ⟨r, hpure, hw⟩ := hw
          have hp := match_put hw
          cases b with
          | false => exact fin hp (fun h => by cases h) (fun _ => rfl)
          | true =>
            refine ⟨sh.enc r, fun w hw' => ?_, fin hp (fun _ => rfl) (fun h => by cases h)⟩
            obtain ⟨hR, hrun⟩ := hs rfl w hw'
            simp only [EffSem] at hrun
            unfold Oper.quietAt
            rw [hrun]
            refine ⟨rfl, (hpure rfl w (Claim.holds_and hR.inv.gholds hR.inv.hholds)).mono ?_⟩
            rintro e w'' ⟨h, hb⟩
            exact ⟨h, hw'.trans (hb.mono hw'.size)⟩
        | load sh ad =>
          obtain ⟨r, hat, hw⟩ := hw
          have hp := match_put hw
          cases b with
          | false => exact fin hp (fun h => by cases h) (fun _ => rfl)
          | true =>
            refine ⟨sh.enc r, fun w hw' => ?_, fin hp (fun _ => rfl) (fun h => by cases h)⟩
            obtain ⟨hR, hrun⟩ := hs rfl w hw'
            have := hrun r (fun i v hv => Claim.cell_of (Claim.holds_and hR.inv.gholds hR.inv.hholds) (hat rfl i v hv))
            unfold Oper.quietAt
            rw [this]
            exact ⟨rfl, rfl⟩
        | _ => cases hq

end
end Go.Ev
