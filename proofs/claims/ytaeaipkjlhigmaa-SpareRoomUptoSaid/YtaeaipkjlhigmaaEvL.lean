/- The framework, part L: a function's contract out of its tree; rules for trees. -/
import Derived.Test.YtaeaipkjlhigmaaEvK
namespace Go.Ev

theorem argAt_eq : ∀ (l : List Value) (i : Nat), (∃ v, l[i]? = some v ∧ argAt l i = .v v) ∨ (l[i]? = none ∧ argAt l i = .junk)
  | [], i => .inr ⟨by simp, by simp [argAt]⟩
  | v :: l, 0 => .inl ⟨v, by simp, rfl⟩
  | v :: l, i + 1 => by
    rcases argAt_eq l i with ⟨w, h1, h2⟩ | ⟨h1, h2⟩
    · exact .inl ⟨w, by simpa using h1, h2⟩
    · exact .inr ⟨by simpa using h1, h2⟩

section
variable {cx : Cx} {fx : Fx}

theorem start_rel {fn : Func} {args : List Value} {c : World} {G H : Claim} (hle : args.length ≤ fn.ntmps) (hg : G.holds c) (hh : H.holds c) (hd : G.disj H) (hm : ∀ b o, H b = some o → Obj.mine o = true) :
    Rel c G H (fun _ => 0) (start fn args) G H { tmps := args.toArray ++ Array.replicate (fn.ntmps - args.toArray.size) undef, defers := [] } c where
  inv := Inv.start hg hh hd hm
  wf := by
    refine ⟨fun i id off e => ?_, fun i id off e => (by cases e), fun id h => absurd rfl h⟩
    have e' : argAt args i = .bp id off := e
    rcases argAt_eq args i with ⟨v, _, h2⟩ | ⟨_, h2⟩ <;> (rw [h2] at e'; cases e')
  size := by simp [start]; omega
  defers := rfl
  t := fun i => by
    show vrel _ (argAt args i) _
    rcases argAt_eq args i with ⟨v, h1, h2⟩ | ⟨_, h2⟩
    · rw [h2]
      have hi : i < args.length := (List.getElem?_eq_some_iff.1 h1).1
      show _ = v
      rw [Array.getD_eq_getD_getElem?, Array.getElem?_append_left (by simpa using hi)]
      simp [h1]
    · rw [h2]; exact trivial
  gt := fun i h => absurd rfl h
  box := fun id cs e => by cases e
  inj := fun i j h => absurd rfl h

def resSem (tm : Array Value) : ResultVar → Sem Value
  | .tmp t => pure (tm.getD t undef)
  | .cell x t => do loadVar t (← asAddr (tm.getD x undef))

theorem results_eq (fn : Func) (tm : Array Value) : results fn tm = (do let vs ← fn.results.mapM (resSem tm); pure (if h : vs.size = 1 then vs[0] else .tuple vs)) := by
  unfold results
  congr 1

theorem retVal_run {c0 : World} {G0 H0 : Claim} {B : Nat → Nat} {σ : St} {G H : Claim} {a : Act} {c : World} (hr : Rel c0 G0 H0 B σ G H a c) {r : ResultVar} {v : Value} (h : retVal cx σ r = some v) :
    (resSem a.tmps r).run cx.P c = .ok v c := by
  unfold resSem
  cases r with
  | tmp t =>
    have := hr.t t
    rw [val?_some h] at this
    simp only [Sem.run_pure]
    rw [show a.tmps.getD t undef = v from this]
  | cell x t =>
    simp only [retVal] at h
    split at h
    · rename_i id off hx
      split at h
      · rename_i cs hcs
        obtain ⟨ty, k1, _⟩ := hr.box id cs hcs
        have hp := hr.t x
        rw [hx] at hp
        cases hc : ((off + cx.size t).ble cs.length && Nat.blt 0 (cx.size t) && (cx.P.underlying t).isSome) with
        | false => rw [hc] at h; cases h
        | true =>
          rw [hc] at h
          simp only [cond_true] at h
          simp only [Bool.and_eq_true, Nat.ble_eq, Nat.blt_eq] at hc
          have hl := run_loadVar_cells k1 hc.1.1 hc.1.2 hc.2
          simp only [Sem.run_bind]
          rw [show a.tmps.getD x undef = .pointer (some ⟨B id, off, none⟩) from hp]
          simp only [asAddr, Sem.run_pure, Result.andThen_ok]
          rw [hl]
          split at h
          · rename_i hag
            simp at h
            rw [hag, h]
          · rename_i hag
            rw [hag]
            simp only
            rw [List.getD_eq_getElem?_getD, h]
            rfl
      · cases h
    · cases h

theorem retVals_mem {σ : St} : ∀ {l : List ResultVar} {vs : List Value}, retVals cx σ l = some vs → (∀ r ∈ l, (retVal cx σ r).isSome = true) ∧ vs = l.map fun r => (retVal cx σ r).getD undef
  | [], vs, h => by simp [retVals] at h; subst h; simp
  | r :: l, vs, h => by
    simp only [retVals] at h
    split at h
    · rename_i v hv
      split at h
      · rename_i ws hws
        simp at h
        obtain ⟨k1, k2⟩ := retVals_mem hws
        refine ⟨fun x hx => ?_, ?_⟩
        · simp at hx
          rcases hx with rfl | hx
          · rw [hv]; rfl
          · exact k1 x hx
        · rw [← h, k2]; simp [hv]
      · cases h
    · cases h

theorem fn_sound (hgood : ∀ f, cx.good f = true → GoodFn cx.P f) (heq : ∀ t, cx.eqT t = true → EqOK cx t) (hmix : cx.P.follows .mixedOrders = true) {f : FuncId} {fn : Func} (hf : cx.P.funcs[f]? = some fn) {args : List Value} {G H : Claim} {Q : Value → Claim → Claim → Prop}
    (hw : (evFn cx fx fn args).wp cx.P [] G H Q) {c : World} (hg : G.holds c) (hh : H.holds c) (hd : G.disj H) (hm : ∀ b o, H b = some o → Obj.mine o = true) :
    Calls cx.P f args.toArray c fun e c' => ∃ v G' H', e = .returned v ∧ Inv c G H c' G' H' ∧ Q v G' H' := by
  unfold evFn at hw
  split at hw
  · rename_i code hb
    cases hle : Nat.ble args.length fn.ntmps with
    | false => rw [hle] at hw; exact hw.elim
    | true =>
      rw [hle] at hw
      rw [Nat.ble_eq] at hle
      refine calls_of_wp hf hb (wp_mono (ev_sound hgood heq hmix code (start_rel hle hg hh hd hm) hw) ?_)
      rintro e a' c' ⟨B', σ', G', H', hR, _, _, hw'⟩
      have key : (retOf cx fn σ').wp cx.P [] G' H' Q → a'.defers = [] ∧ ∃ v, (results fn a'.tmps).run cx.P c' = .ok v c' ∧ ∃ v' G2 H2, Ending.returned v = .returned v' ∧ Inv c G H c' G2 H2 ∧ Q v' G2 H2 := by
        intro hk
        refine ⟨hR.defers, ?_⟩
        have hres : ∀ vs, retVals cx σ' fn.results.toList = some vs → (results fn a'.tmps).run cx.P c' = .ok (if vs.length = 1 then vs.getD 0 undef else .tuple vs.toArray) c' := by
          intro vs hvs
          obtain ⟨k1, k2⟩ := retVals_mem hvs
          have hm := run_mapM (P := cx.P) (w := c') (resSem a'.tmps) (fun r => (retVal cx σ' r).getD undef) fn.results (fun r hr => by
              obtain ⟨v, hv⟩ := Option.isSome_iff_exists.1 (k1 r hr)
              rw [hv]
              exact retVal_run hR hv)
          have e : fn.results.map (fun r => (retVal cx σ' r).getD undef) = vs.toArray := by rw [k2, ← Array.toList_map]
          rw [results_eq]
          simp only [Sem.run_bind]
          rw [hm, Result.andThen_ok, e]
          simp only [Sem.run_pure]
          congr 1
          by_cases h1 : vs.length = 1
          · rw [dif_pos (by simpa using h1), if_pos h1]
            cases vs with
            | nil => simp at h1
            | cons x l => rfl
          · rw [dif_neg (by simpa using h1), if_neg h1]
        unfold retOf at hk
        split at hk
        · rename_i v hv
          have := hres _ hv
          rw [if_pos (by rfl)] at this
          rcases hk with hk | ⟨G1, H1, F, hk⟩
          · exact ⟨v, this, v, G', H', rfl, hR.inv, hk⟩
          · exact ⟨v, this, v, G1, H1, rfl, hR.inv.frz F, hk⟩
        · rename_i vs hnot hv
          have := hres _ hv
          have hne : ¬ vs.length = 1 := by
            intro hl
            match vs, hl with
            | [x], _ => exact hnot x rfl
          rw [if_neg hne] at this
          rcases hk with hk | ⟨G1, H1, F, hk⟩
          · exact ⟨_, this, _, G', H', rfl, hR.inv, hk⟩
          · exact ⟨_, this, _, G1, H1, rfl, hR.inv.frz F, hk⟩
        · exact hk.elim
      cases e with
      | normal => exact key hw'
      | ret => exact key hw'
      | exit id => exact hw'.elim
      | goto l => exact hw'.elim
      | panic ch => exact hw'.elim
      | outgrown => exact hw'.elim
  · exact hw.elim

/-- the facts about a program on which all rests -/
structure CxOK (cx : Cx) : Prop where
  good : ∀ f, cx.good f = true → GoodFn cx.P f
  eq : ∀ t, cx.eqT t = true → EqOK cx t
  mix : cx.P.follows .mixedOrders = true

theorem call_of (ok : CxOK cx) {f : FuncId} {fn : Func} (hf : cx.P.funcs[f]? = some fn) {args : List Value} {G H : Claim} {sh : Sh} {R : sh.den → Claim → Claim → Prop} {t : T} (ht : evFn cx fx fn args = t)
    (hw : t.wp cx.P [] G H fun v G' H' => ∃ r, v = sh.enc r ∧ R r G' H') : CallAt cx.P f args G H sh R := by
  intro c hg hh hd hm
  refine (fn_sound ok.good ok.eq ok.mix hf (by rw [ht]; exact hw) hg hh hd hm).mono ?_
  rintro e c' ⟨v, G', H', rfl, hi, r, rfl, hR⟩
  exact ⟨r, G', H', rfl, hi, hR⟩

theorem Claim.none_holds (c : World) : Claim.none.holds c := fun _ _ h => by cases h
theorem Claim.disj_none (G : Claim) : G.disj Claim.none := fun _ => .inr rfl

theorem Inv.to_below {c c' : World} {G G' H' : Claim} (i : Inv c G Claim.none c' G' H') : RowKit.Below c.heap.size c c' :=
  ⟨i.os, i.tape, i.output, i.size, fun b hb => i.frame b hb rfl⟩

theorem pure_of (ok : CxOK cx) {f : FuncId} {fn : Func} (hf : cx.P.funcs[f]? = some fn) {args : List Value} {S : Claim} {sh : Sh} {r : sh.den} {t : T} (ht : evFn cx fx fn args = t)
    (hw : t.wp cx.P [] S Claim.none fun v _ _ => v = sh.enc r) : PureAt cx.P f args S sh r := by
  intro c hc
  refine (fn_sound ok.good ok.eq ok.mix hf (by rw [ht]; exact hw) hc (Claim.none_holds c) (Claim.disj_none _) (fun _ _ h => by cases h)).mono ?_
  rintro e c' ⟨v, G', H', rfl, hi, rfl⟩
  exact ⟨rfl, hi.to_below⟩
end

/-! ### rules -/

section
variable {P : Program} {E : Env} {G H : Claim} {Q : Value → Claim → Claim → Prop}

theorem wp_ret {v : Value} (h : Q v G H) : (T.ret v).wp P E G H Q := .inl h
/-- what is owned may be known for good, at the end -/
theorem wp_ret_frz {v : Value} {G1 H1 : Claim} (F : Frz G H G1 H1) (h : Q v G1 H1) : (T.ret v).wp P E G H Q := .inr ⟨G1, H1, F, h⟩
/-- all of it -/
theorem Frz.all {G H : Claim} (d : G.disj H) : Frz G H (G.and H) Claim.none where
  le := Claim.le_and_left G H d
  hle := fun _ _ h => by cases h
  sub := fun b o h => by
    unfold Claim.and at h
    split at h
    · rename_i o' ho; cases h; exact .inr ho
    · exact .inl h
  disj := Claim.disj_none _
theorem wp_cond {b : Bool} {t e : T} (h1 : b = true → t.wp P E G H Q) (h2 : b = false → e.wp P E G H Q) : (T.cond b t e).wp P E G H Q := ⟨h1, h2⟩
theorem wp_must {p : Prop} {k : T} (hp : p) (h : k.wp P E G H Q) : (T.must p k).wp P E G H Q := ⟨hp, h⟩
theorem wp_dcall {b : Bool} {f : FuncId} {args : List Value} {sh : Sh} {k : sh.den → T} {r : sh.den} (hp : PureAt P f args (G.and H) sh r) (h : (k r).wp P E G H Q) : (T.dcall b f args sh k).wp P E G H Q := ⟨r, fun _ => hp, h⟩
theorem wp_call {f : FuncId} {args : List Value} {sh : Sh} {k : sh.den → T} {R : sh.den → Claim → Claim → Prop} (hp : CallAt P f args G H sh R) (h : ∀ r G' H', G.le G' → G'.disj H' → R r G' H' → (k r).wp P E G' H' Q) :
    (T.call f args sh k).wp P E G H Q := ⟨R, hp, h⟩
theorem wp_load {b : Bool} {sh : Sh} {a : Addr} {k : sh.den → T} {r : sh.den} (hp : b = true → (G.and H).at a (sh.flat r)) (h : (k r).wp P E G H Q) : (T.load b sh a k).wp P E G H Q := ⟨r, hp, h⟩
theorem wp_loop {sh : Sh} {x0 : sh.den} {body : sh.den → T} (I : sh.den → Claim → Claim → Prop) (m : sh.den → Claim → Claim → Nat) (h0 : I x0 G H)
    (h : ∀ x G' H', G.le G' → G'.disj H' → I x G' H' → (body x).wp P (headJ sh (fun x' G'' H'' => I x' G'' H'' ∧ m x' G'' H'' < m x G' H') :: E) G' H' Q) : (T.loop sh x0 body).wp P E G H Q := ⟨I, m, h0, h⟩
theorem wp_again {sh : Sh} {x : sh.den} {J : sh.den → Claim → Claim → Prop} (h : J x G H) : (T.again sh x).wp P (headJ sh J :: E) G H Q := ⟨rfl, h⟩
theorem wp_pop {t : T} {J : (sh : Sh) → sh.den → Claim → Claim → Prop} (h : t.wp P E G H Q) : (T.pop t).wp P (J :: E) G H Q := h
end

end Go.Ev
