/- The framework, part C: what the evaluator's state says of the machine's; reading and writing slots. -/
import Derived.Test.YtaeaipkjlhigmaaEvB
import Derived.Deep.LoopGhost
namespace Go.Ev

def vrel (B : Nat → Nat) : AVal → Value → Prop
  | .v x, y => y = x
  | .bp id off, y => y = .pointer (some ⟨B id, off, none⟩)
  | .junk, _ => True

def Sat (g : List (Nat × Bool)) (tm : Array Value) : Prop := ∀ x ∈ g, tm[x.1]? = some (.bool x.2)

structure WF (σ : St) : Prop where
  t : ∀ i id off, σ.t i = .bp id off → id < σ.next
  gt : ∀ i id off, (σ.gt i).x = .bp id off → id < σ.next
  box : ∀ id, σ.box id ≠ none → id < σ.next

structure Rel (c0 : World) (G0 H0 : Claim) (B : Nat → Nat) (σ : St) (G H : Claim) (a : Act) (c : World) : Prop where
  inv : Inv c0 G0 H0 c G H
  wf : WF σ
  size : a.tmps.size = σ.n
  defers : a.defers = []
  t : ∀ i, vrel B (σ.t i) (a.tmps.getD i undef)
  gt : ∀ i, (σ.gt i).g ≠ [] → ((σ.gt i).b = true ↔ Sat (σ.gt i).g a.tmps) ∧ ((σ.gt i).b = true → vrel B (σ.gt i).x (a.tmps.getD i undef)) ∧
    ((σ.gt i).b = false → a.tmps.getD i undef = undef) ∧ (∀ x ∈ (σ.gt i).g, memN x.1 σ.gs = true)
  box : ∀ id cs, σ.box id = some cs → ∃ ty, c.heap[B id]? = some (.cells cs.toArray ty (0, 0)) ∧ G (B id) = none ∧ H (B id) = none ∧ c0.heap.size ≤ B id
  inj : ∀ id id', σ.box id ≠ none → σ.box id' ≠ none → B id = B id' → id = id'

def LockOK (σ σ' : St) : Prop :=
  (∀ i, memN i σ.lockT = true → σ'.t i = σ.t i) ∧ (∀ id, memN id σ.lockB = true → σ'.box id = σ.box id) ∧ σ'.lockT = σ.lockT ∧ σ'.lockB = σ.lockB ∧ σ'.n = σ.n ∧ σ.next ≤ σ'.next

theorem LockOK.refl (σ : St) : LockOK σ σ := ⟨fun _ _ => rfl, fun _ _ => rfl, rfl, rfl, rfl, Nat.le_refl _⟩
theorem LockOK.trans {a b c : St} (h : LockOK a b) (k : LockOK b c) : LockOK a c := by
  obtain ⟨h1, h2, h3, h4, h5, h6⟩ := h
  obtain ⟨k1, k2, k3, k4, k5, k6⟩ := k
  refine ⟨fun i hi => ?_, fun i hi => ?_, k3.trans h3, k4.trans h4, k5.trans h5, Nat.le_trans h6 k6⟩
  · rw [k1 i (by rw [h3]; exact hi), h1 i hi]
  · rw [k2 i (by rw [h4]; exact hi), h2 i hi]

theorem upd_same {α : Type} (f : Nat → α) (i : Nat) (x : α) : upd f i x i = x := by simp [upd]
theorem upd_ne {α : Type} (f : Nat → α) {i j : Nat} (x : α) (h : j ≠ i) : upd f i x j = f j := by simp [upd, beq_ne h]

theorem memN_iff {i : Nat} {l : List Nat} : memN i l = true ↔ i ∈ l := by
  induction l with
  | nil => simp [memN]
  | cons j l ih => simp [memN, ih]

/-! ### worlds -/

theorem Claim.holds_lt {G : Claim} {c : World} (h : G.holds c) {b : Nat} (hb : G b ≠ Option.none) : b < c.heap.size := by
  cases hg : G b with
  | none => exact absurd hg hb
  | some o => exact (Array.getElem?_eq_some_iff.1 (h b o hg)).1
theorem Claim.holds_none {G : Claim} {c : World} (h : G.holds c) {b : Nat} (hb : c.heap.size ≤ b) : G b = Option.none := by
  cases hg : G b with
  | none => rfl
  | some o => exact absurd (Claim.holds_lt h (b := b) (by simp [hg])) (by omega)

theorem Rel.world {c0 : World} {G0 H0 : Claim} {B : Nat → Nat} {σ : St} {G H : Claim} {a : Act} {c : World} (h : Rel c0 G0 H0 B σ G H a c)
    {c' : World} {G' H' : Claim} (i : Inv c G H c' G' H') : Rel c0 G0 H0 B σ G' H' a c' where
  inv := h.inv.trans i
  wf := h.wf
  size := h.size
  defers := h.defers
  t := h.t
  gt := h.gt
  inj := h.inj
  box := fun id cs hb => by
    obtain ⟨ty, h1, h2, h3, h4⟩ := h.box id cs hb
    have hlt : B id < c.heap.size := (Array.getElem?_eq_some_iff.1 h1).1
    refine ⟨ty, by rw [i.frame _ hlt h3]; exact h1, ?_, ?_, h4⟩
    · cases hG : G' (B id) with
      | none => rfl
      | some o =>
        rcases i.gold (B id) hlt (by simp [hG]) with h' | h'
        · exact absurd h2 h'
        · exact absurd h3 h'
    · cases hH : H' (B id) with
      | none => rfl
      | some o => exact absurd h3 (i.hold (B id) hlt (by simp [hH]))

/-! ### reading -/

theorem getD_bool {tm : Array Value} {s : Nat} {b : Bool} (h : tm.getD s undef = .bool b) : tm[s]? = some (.bool b) := by
  rw [Array.getD_eq_getD_getElem?] at h
  cases e : tm[s]? with
  | none => rw [e] at h; simp [undef] at h
  | some v => rw [e] at h; simp at h; rw [h]

theorem subG_sat {l g : List (Nat × Bool)} {tm : Array Value} (h : subG l g = true) (s : Sat g tm) : Sat l tm := by
  intro x hx
  have := List.all_eq_true.1 h x hx
  obtain ⟨y, hy, e⟩ := List.any_eq_true.1 this
  simp at e
  have := s y hy
  rw [e.1, e.2]; exact this

theorem val?_some {x : AVal} {v : Value} (h : x.val? = some v) : x = .v v := by
  cases x <;> simp [AVal.val?] at h
  rw [h]

theorem bool?_some {o : Option Value} {b : Bool} (h : bool? o = some b) : o = some (.bool b) := by
  unfold bool? at h
  split at h
  · simp at h; rw [h]
  · cases h

section
variable {c0 : World} {G0 H0 : Claim} {B : Nat → Nat} {σ : St} {G H : Claim} {a : Act} {c : World}

theorem Rel.rdT (h : Rel c0 G0 H0 B σ G H a c) {g : List (Nat × Bool)} (s : Sat g a.tmps) (i : Nat) : vrel B (rdT σ g i) (a.tmps.getD i undef) := by
  have ht := h.t i
  unfold Ev.rdT
  split
  · split
    · exact trivial
    · rename_i l hl
      cases hs : subG (σ.gt i).g g with
      | false => exact trivial
      | true =>
        have hg := h.gt i (fun e => hl (by rw [e]))
        exact hg.2.1 (hg.1.2 (subG_sat hs s))
  · exact ht

theorem Rel.rd (h : Rel c0 G0 H0 B σ G H a c) {g : List (Nat × Bool)} (s : Sat g a.tmps) (x : Operand) : vrel B (rd σ g x) (a.eval x) := by
  cases x with
  | tmp i => exact h.rdT s i
  | const v => rfl
  | func f => rfl
  | global n => exact trivial

theorem Rel.rdv (h : Rel c0 G0 H0 B σ G H a c) {g : List (Nat × Bool)} (s : Sat g a.tmps) {x : Operand} {v : Value} (hv : (Ev.rd σ g x).val? = some v) : a.eval x = v := by
  have := h.rd s x
  rw [val?_some hv] at this
  exact this

theorem yielded_eq {ops : Array Oper} {tm : Array Value} {j s : Nat} (h : (ops[j]?).bind (·.dst) = some s) :
    yielded ops tm j = match tm[s]? with | some (.bool b) => some b | _ => none := by
  unfold yielded
  rw [h]
  rfl

theorem guardOf_spec (h : Rel c0 G0 H0 B σ G H a c) {ops : Array Oper} {o : Oper} {g : List (Nat × Bool)} {b : Bool} (hg : guardOf σ ops o = some (g, b)) :
    (b = true ↔ Sat g a.tmps) ∧ Region.wanted o (yielded ops a.tmps) = b ∧ (g = [] → b = true) := by
  unfold guardOf at hg
  split at hg
  · rename_i ho
    simp at hg
    obtain ⟨rfl, rfl⟩ := hg
    exact ⟨⟨fun _ => (fun x hx => absurd hx (by simp)), fun _ => rfl⟩, by simp [Region.wanted, ho], fun _ => rfl⟩
  · rename_i j w ho
    split at hg
    · cases hg
    · rename_i s hs
      have hy := yielded_eq (tm := a.tmps) hs
      split at hg
      · rename_i y hty
        split at hg
        · rename_i b' hb
          have hb' := bool?_some hb
          simp at hb'
          subst hb'
          simp at hg
          obtain ⟨rfl, rfl⟩ := hg
          have ht := h.t s
          rw [hty] at ht
          have ht' := getD_bool ht
          refine ⟨?_, ?_, fun e => by cases e⟩
          · constructor
            · intro hb x hx
              simp at hx
              subst hx
              simp only
              rw [ht']
              cases w <;> cases b' <;> simp_all
            · intro hS
              have := hS (s, w) (by simp)
              simp only at this
              rw [ht'] at this
              simp at this
              subst this
              cases b' <;> rfl
          · simp only [Region.wanted, ho, hy, ht']
            cases w <;> cases b' <;> rfl
        · cases hg
      · cases hg
      · rename_i hty
        split at hg
        · cases hg
        · rename_i l hl
          split at hg
          · rename_i b' hb
            have hb' := val?_some (bool?_some hb)
            simp at hg
            obtain ⟨rfl, rfl⟩ := hg
            have hgt := h.gt s (fun e => hl (by rw [e]))
            obtain ⟨h1, h2, h3, h4⟩ := hgt
            refine ⟨?_, ?_, fun e => by cases e⟩
            · constructor
              · intro hbb x hx
                simp only [Bool.and_eq_true] at hbb
                have hv := h2 hbb.2
                rw [hb'] at hv
                have hv' := getD_bool hv
                simp only [List.mem_cons] at hx
                rcases hx with rfl | hx
                · simp only
                  rw [hv']
                  cases w <;> cases b' <;> simp_all
                · exact h1.1 hbb.2 x hx
              · intro hS
                have hb1 : (σ.gt s).b = true := h1.2 (fun x hx => hS x (by simp [hx]))
                have hv := h2 hb1
                rw [hb'] at hv
                have hv' := getD_bool hv
                have := hS (s, w) (by simp)
                simp only at this
                rw [hv'] at this
                simp at this
                subst this
                simp only [hb1, Bool.and_true]
                cases b' <;> rfl
            · simp only [Region.wanted, ho, hy]
              cases hb1 : (σ.gt s).b with
              | true =>
                have hv := h2 hb1
                rw [hb'] at hv
                have hv' := getD_bool hv
                rw [hv']
                cases w <;> cases b' <;> rfl
              | false =>
                have hv := h3 hb1
                rw [Array.getD_eq_getD_getElem?] at hv
                simp only [Bool.and_false]
                cases e : a.tmps[s]? with
                | none => rfl
                | some v => rw [e] at hv; simp at hv; rw [hv]; rfl
          · cases hg

/-! ### writing -/

theorem getD_set {tm : Array Value} {d i : Nat} {v : Value} (hd : d < tm.size) : (tm.setIfInBounds d v).getD i undef = if i = d then v else tm.getD i undef := by
  rw [Array.getD_eq_getD_getElem?, Array.getD_eq_getD_getElem?, Array.getElem?_setIfInBounds]
  by_cases h : i = d
  · subst h; simp [hd]
  · rw [if_neg (fun e => h e.symm), if_neg h]

theorem get_set_ne {tm : Array Value} {d i : Nat} {v : Value} (h : i ≠ d) : (tm.setIfInBounds d v)[i]? = tm[i]? := by
  rw [Array.getElem?_setIfInBounds, if_neg (fun e => h e.symm)]

theorem Sat.set {g : List (Nat × Bool)} {tm : Array Value} {d : Nat} {v : Value} (h : ∀ x ∈ g, x.1 ≠ d) : Sat g (tm.setIfInBounds d v) ↔ Sat g tm := by
  constructor
  · intro s x hx
    have := s x hx
    rwa [get_set_ne (h x hx)] at this
  · intro s x hx
    rw [get_set_ne (h x hx)]
    exact s x hx

theorem put_spec (h : Rel c0 G0 H0 B σ G H a c) {dst : Option Nat} {g : List (Nat × Bool)} {b : Bool} {x : AVal} {σ' : St} (hp : σ.put dst g b x = some σ')
    (hb : b = true ↔ Sat g a.tmps) (hn : g = [] → b = true) {v : Value} (h1 : b = true → vrel B x v) (h2 : b = false → v = undef) :
    Rel c0 G0 H0 B σ' G H (a.put dst v) c ∧ LockOK σ σ' := by
  unfold St.put at hp
  split at hp
  · simp at hp
    subst hp
    exact ⟨h, LockOK.refl _⟩
  · rename_i d
    cases hc : (Nat.blt d σ.n && !memN d σ.lockT && !memN d σ.gs && bpOk σ.next x) with
    | false => rw [hc] at hp; cases hp
    | true =>
      rw [hc] at hp
      simp only [cond_true] at hp
      simp only [Bool.and_eq_true, Bool.not_eq_true', Nat.blt_eq] at hc
      obtain ⟨⟨⟨hd, hlT⟩, hgs⟩, hbp⟩ := hc
      have hx : ∀ id off, x = .bp id off → id < σ.next := by
        rintro id off rfl
        simpa [bpOk] using hbp
      have hd' : d < a.tmps.size := by rw [h.size]; exact hd
      have hold : ∀ i, i ≠ d → (σ.gt i).g ≠ [] → ∀ y ∈ (σ.gt i).g, y.1 ≠ d := by
        intro i _ hi y hy e
        have := (h.gt i hi).2.2.2 y hy
        rw [e, hgs] at this
        cases this
      split at hp
      · simp at hp
        subst hp
        have hbt := hn rfl
        refine ⟨⟨h.inv, ⟨?_, ?_, h.wf.box⟩, by simp [Act.put, h.size], h.defers, ?_, ?_, h.box, h.inj⟩, ?_, fun _ _ => rfl, rfl, rfl, rfl, Nat.le_refl _⟩
        · intro i id off e
          dsimp only at e ⊢
          by_cases hi : i = d
          · subst hi; rw [upd_same] at e; exact hx id off e
          · rw [upd_ne _ _ hi] at e; exact h.wf.t i id off e
        · intro i id off e
          dsimp only at e ⊢
          by_cases hi : i = d
          · subst hi; rw [upd_same] at e; cases e
          · rw [upd_ne _ _ hi] at e; exact h.wf.gt i id off e
        · intro i
          dsimp only [Act.put]
          rw [getD_set hd']
          by_cases hi : i = d
          · subst hi; rw [upd_same, if_pos rfl]; exact h1 hbt
          · rw [upd_ne _ _ hi, if_neg hi]; exact h.t i
        · intro i hi
          dsimp only [Act.put] at hi ⊢
          by_cases hid : i = d
          · subst hid; rw [upd_same] at hi; exact absurd rfl hi
          · rw [upd_ne _ _ hid] at hi ⊢
            rw [getD_set hd', if_neg hid, Sat.set (hold i hid hi)]
            exact h.gt i hi
        · intro i hi
          by_cases hid : i = d
          · subst hid; rw [hlT] at hi; cases hi
          · exact upd_ne _ _ hid
      · rename_i g0 g1
        cases hall : ((g0 :: g1).all fun y => !Nat.beq y.1 d) with
        | false => rw [hall] at hp; cases hp
        | true =>
          rw [hall] at hp
          simp only [cond_true, Option.some.injEq] at hp
          subst hp
          have hgne : ∀ y ∈ g0 :: g1, y.1 ≠ d := by
            intro y hy e
            have := List.all_eq_true.1 hall y hy
            simp [e] at this
          refine ⟨⟨h.inv, ⟨?_, ?_, h.wf.box⟩, by simp [Act.put, h.size], h.defers, ?_, ?_, h.box, h.inj⟩, ?_, fun _ _ => rfl, rfl, rfl, rfl, Nat.le_refl _⟩
          · intro i id off e
            dsimp only at e ⊢
            by_cases hi : i = d
            · subst hi; rw [upd_same] at e; cases e
            · rw [upd_ne _ _ hi] at e; exact h.wf.t i id off e
          · intro i id off e
            dsimp only at e ⊢
            by_cases hi : i = d
            · subst hi; rw [upd_same] at e; exact hx id off e
            · rw [upd_ne _ _ hi] at e; exact h.wf.gt i id off e
          · intro i
            dsimp only [Act.put]
            rw [getD_set hd']
            by_cases hi : i = d
            · subst hi; rw [upd_same]; exact trivial
            · rw [upd_ne _ _ hi, if_neg hi]; exact h.t i
          · intro i hi
            dsimp only [Act.put] at hi ⊢
            by_cases hid : i = d
            · subst hid
              rw [upd_same]
              rw [getD_set hd', if_pos rfl, Sat.set hgne]
              refine ⟨hb, h1, h2, ?_⟩
              intro y hy
              rw [memN_iff]
              exact List.mem_append.2 (.inl (List.mem_map.2 ⟨y, hy, rfl⟩))
            · rw [upd_ne _ _ hid] at hi ⊢
              rw [getD_set hd', if_neg hid, Sat.set (hold i hid hi)]
              obtain ⟨k1, k2, k3, k4⟩ := h.gt i hi
              refine ⟨k1, k2, k3, ?_⟩
              intro y hy
              rw [memN_iff]
              exact List.mem_append.2 (.inr (memN_iff.1 (k4 y hy)))
          · intro i hi
            by_cases hid : i = d
            · subst hid; rw [hlT] at hi; cases hi
            · exact upd_ne _ _ hid
end

end Go.Ev
