/- The framework, part R (stands between I and J): communications of a lone goroutine; a region, operation by operation. -/
import Derived.Test.YtaeaipkjlhigmaaEvI
namespace Go.Ev

section
variable {P : Program} {b : Frame} {a : Act} {k : List Item} {cs : List Frame} {w : World} {ops : Array Oper} {Q : Exit → Act → World → Prop}

/-- what is left of a region leads to where Q holds -/
def OpsWp (P : Program) (ops : Array Oper) (Q : Exit → Act → World → Prop) (l : List Nat) (a : Act) (w : World) : Prop :=
  ∀ (b : Frame) (k : List Item) (cs : List Frame), ∃ e a' w', Q e a' w' ∧ Arrives P (lone (b.at a (.inRegion ops l :: k)) cs w) b k cs e a' w'

theorem opsWp_nil (h : Q .normal a w) : OpsWp P ops Q [] a w := fun _ _ _ => ⟨.normal, a, w, h, .one step_region_end⟩

theorem opsWp_skip {i : Nat} {rest : List Nat} {o : Oper} (ho : ops[i]? = some o) (hw : Region.wanted o (yielded ops a.tmps) = false) (h : OpsWp P ops Q rest (a.put o.dst undef) w) : OpsWp P ops Q (i :: rest) a w := by
  intro b k cs
  obtain ⟨e, a', w', hq, harr⟩ := h b k cs
  have hs := step_op_skip (P := P) (b := b) (a := a) (k := k) (cs := cs) (w := w) (ops := ops) (i := i) (rest := rest) (by simp [ho, hw])
  simp only [ho, Option.bind_some] at hs
  exact ⟨e, a', w', hq, .of_steps (.one hs) harr⟩

theorem finish_eq {i : Nat} {rest : List Nat} {o : Oper} (ho : ops[i]? = some o) (v : Value) : (b.at a (.inRegion ops (i :: rest) :: k)).finish v = b.at (a.put o.dst v) (.inRegion ops rest :: k) := by
  rw [Frame.finish_at, ho]; rfl

theorem opsWp_op {i : Nat} {rest : List Nat} {o : Oper} {K : Act → World → Prop} (ho : ops[i]? = some o) (hw : Region.wanted o (yielded ops a.tmps) = true)
    (h : o.upon P a K (fun _ _ _ => False) ((execOp a.eval o).run P w)) (hK : ∀ a w, K a w → OpsWp P ops Q rest a w) : OpsWp P ops Q (i :: rest) a w := by
  intro b k cs
  have hg := stepG_op (P := P) (b := b) (k := k) (cs := cs) (w := w) (rest := rest) ho hw
  -- one step to a world in which the rest goes on
  have one : ∀ {v : Value} {w' : World}, K (a.put o.dst v) w' → (stepG.apply P true (b.at a (.inRegion ops (i :: rest) :: k)) cs none (execOp a.eval o) w).bare =
      .go { frame := (b.at a (.inRegion ops (i :: rest) :: k)).finish v, callers := cs, status := .running, dying := none } w' →
      ∃ e a' w', Q e a' w' ∧ Arrives P (lone (b.at a (.inRegion ops (i :: rest) :: k)) cs w) b k cs e a' w' := by
    intro v w' hk hs
    obtain ⟨e, a', w2, hq, harr⟩ := hK _ _ hk b k cs
    refine ⟨e, a', w2, hq, .of_steps (.one (step_lone_go ?_)) harr⟩
    rw [hg, hs, finish_eq ho]
  generalize hr : (execOp a.eval o).run P w = r at h
  match r, h with
  | .ok (.value v) w', h => exact one h (by simp [stepG.apply, hr])
  | .ok .skip w', h => exact one h (by simp [stepG.apply, hr])
  | .ok (.enter f args) w', h =>
    obtain ⟨e, w2, fr, hR, hsteps, _, hleave⟩ := h (b.at a (.inRegion ops (i :: rest) :: k) :: cs)
    have hin : step P (lone (b.at a (.inRegion ops (i :: rest) :: k)) cs w) = .next (lone (Frame.enter P f args .normal) (b.at a (.inRegion ops (i :: rest) :: k) :: cs) w') :=
      step_lone_go (by rw [hg]; simp [stepG.apply, hr, Frame.at])
    cases e with
    | returned v =>
      obtain ⟨e, a', w3, hq, harr⟩ := hK _ _ hR b k cs
      refine ⟨e, a', w3, hq, .of_steps (.head hin (hsteps.trans (.one ?_))) harr⟩
      rw [← finish_eq ho]
      exact step_leave_returned hleave
    | panicked chain => exact hR.elim
    | outgrown => obtain ⟨_, _, hf⟩ := hR; exact hf.elim
  | .ok (.row row args) w', h =>
    obtain ⟨v, w2, hR, hsteps⟩ := h (b.at a (.inRegion ops (i :: rest) :: k)) cs
    have hin : step P (lone (b.at a (.inRegion ops (i :: rest) :: k)) cs w) = .next (lone (Frame.ofRow P row args .normal) (b.at a (.inRegion ops (i :: rest) :: k) :: cs) w') :=
      step_lone_go (by rw [hg]; simp [stepG.apply, hr, Frame.at])
    obtain ⟨e, a', w3, hq, harr⟩ := hK _ _ hR b k cs
    refine ⟨e, a', w3, hq, .of_steps (.head hin ?_) harr⟩
    rw [← finish_eq ho]
    exact hsteps
  | .ok (.defer d) w', h =>
    obtain ⟨e, a', w2, hq, harr⟩ := hK _ _ h b k cs
    refine ⟨e, a', w2, hq, .of_steps (.one (step_lone_go ?_)) harr⟩
    have hf : ({ b.at a (.inRegion ops (i :: rest) :: k) with defers := d :: a.defers } : Frame).finish undef = b.at ({ a with defers := d :: a.defers }.put o.dst undef) (.inRegion ops rest :: k) :=
      finish_eq (a := { a with defers := d :: a.defers }) ho undef
    rw [hg]
    simp only [stepG.apply, Sem.runT_eq, hr, GStep.bare_after]
    exact congrArg (fun fr => GStep.go { frame := fr, callers := cs, status := .running, dying := none } w') hf

/-! ### communications -/

/-- what is sent where there is room -/
theorem step_send {i : Nat} {rest : List Nat} {o : Oper} {r cap s rc : Nat} {v z : Value} {buf : Array Value} {tm : Bool} (ho : ops[i]? = some o) (hw : Region.wanted o (yielded ops a.tmps) = true)
    (hr : (execOp a.eval o).run P w = .ok (.comm #[{ chan := .chan (some r), send := some v, zero := z }] false .select) w) (hc : w.heap[r]? = some (.chan cap buf false s rc tm)) (hroom : buf.size < cap) :
    step P (lone (b.at a (.inRegion ops (i :: rest) :: k)) cs w) =
      .next (lone (b.at (a.put o.dst (.tuple #[.int .i64 0, .bool false])) (.inRegion ops rest :: k)) cs { w with heap := w.heap.setIfInBounds r (.chan cap (buf.push v) false (s + 1) rc tm) }) := by
  have hg := stepG_op (P := P) (b := b) (k := k) (cs := cs) (w := w) (rest := rest) ho hw
  have hb : (stepG P true { frame := b.at a (.inRegion ops (i :: rest) :: k), callers := cs, status := .running, dying := none } w).bare =
      .comm { frame := b.at a (.inRegion ops (i :: rest) :: k), callers := cs, status := .running, dying := none } #[{ chan := .chan (some r), send := some v, zero := z }] false .select w := by
    rw [hg]; simp [stepG.apply, hr]
  rw [← finish_eq ho]
  generalize hs : stepG P true { frame := b.at a (.inRegion ops (i :: rest) :: k), callers := cs, status := .running, dying := none } w = x at hb
  cases x <;> simp at hb
  obtain ⟨rfl, rfl, rfl, rfl, rfl⟩ := hb
  rw [step, _root_.Go.stepT, move_lone]
  simp [runT, lone, Array.swapAt!, hs, communicate, ways, partners, hc, hroom, choose, Sem.run, Question.forced, bind, Sem.bind, pure, Goroutine.finishComm, commResult, goInt]

/-- there is no room -/
theorem step_full {i : Nat} {rest : List Nat} {o : Oper} {r cap s rc : Nat} {v z : Value} {buf : Array Value} {tm : Bool} (ho : ops[i]? = some o) (hw : Region.wanted o (yielded ops a.tmps) = true)
    (hr : (execOp a.eval o).run P w = .ok (.comm #[{ chan := .chan (some r), send := some v, zero := z }] false .select) w) (hc : w.heap[r]? = some (.chan cap buf false s rc tm)) (hroom : ¬ buf.size < cap) :
    step P (lone (b.at a (.inRegion ops (i :: rest) :: k)) cs w) = .next (lone (b.at (a.put o.dst (.tuple #[.int .i64 (-1), .bool false])) (.inRegion ops rest :: k)) cs w) := by
  have hg := stepG_op (P := P) (b := b) (k := k) (cs := cs) (w := w) (rest := rest) ho hw
  have hb : (stepG P true { frame := b.at a (.inRegion ops (i :: rest) :: k), callers := cs, status := .running, dying := none } w).bare =
      .comm { frame := b.at a (.inRegion ops (i :: rest) :: k), callers := cs, status := .running, dying := none } #[{ chan := .chan (some r), send := some v, zero := z }] false .select w := by
    rw [hg]; simp [stepG.apply, hr]
  rw [← finish_eq ho]
  generalize hs : stepG P true { frame := b.at a (.inRegion ops (i :: rest) :: k), callers := cs, status := .running, dying := none } w = x at hb
  cases x <;> simp at hb
  obtain ⟨rfl, rfl, rfl, rfl, rfl⟩ := hb
  rw [step, _root_.Go.stepT, move_lone]
  simp [runT, lone, Array.swapAt!, hs, communicate, ways, partners, hc, hroom, Goroutine.finishComm, commResult, goInt]

/-- what is received where something lies -/
theorem step_recv {i : Nat} {rest : List Nat} {o : Oper} {r cap s rc : Nat} {z : Value} {buf : Array Value} {cl tm : Bool} (ho : ops[i]? = some o) (hw : Region.wanted o (yielded ops a.tmps) = true)
    (hr : (execOp a.eval o).run P w = .ok (.comm #[{ chan := .chan (some r), send := none, zero := z }] true (.recv false)) w) (hc : w.heap[r]? = some (.chan cap buf cl s rc tm)) (hsome : 0 < buf.size) :
    step P (lone (b.at a (.inRegion ops (i :: rest) :: k)) cs w) =
      .next (lone (b.at (a.put o.dst (buf.getD 0 undef)) (.inRegion ops rest :: k)) cs { w with heap := w.heap.setIfInBounds r (.chan cap (buf.extract 1 buf.size) cl s (rc + 1) tm) }) := by
  have hg := stepG_op (P := P) (b := b) (k := k) (cs := cs) (w := w) (rest := rest) ho hw
  have hb : (stepG P true { frame := b.at a (.inRegion ops (i :: rest) :: k), callers := cs, status := .running, dying := none } w).bare =
      .comm { frame := b.at a (.inRegion ops (i :: rest) :: k), callers := cs, status := .running, dying := none } #[{ chan := .chan (some r), send := none, zero := z }] true (.recv false) w := by
    rw [hg]; simp [stepG.apply, hr]
  rw [← finish_eq ho]
  generalize hs : stepG P true { frame := b.at a (.inRegion ops (i :: rest) :: k), callers := cs, status := .running, dying := none } w = x at hb
  cases x <;> simp at hb
  obtain ⟨rfl, rfl, rfl, rfl, rfl⟩ := hb
  rw [step, _root_.Go.stepT, move_lone]
  simp [runT, lone, Array.swapAt!, hs, communicate, ways, partners, hc, hsome, choose, Sem.run, Question.forced, bind, Sem.bind, pure, Goroutine.finishComm, commResult]

theorem opsWp_step {i : Nat} {rest : List Nat} {o : Oper} {v : Value} {w' : World} (h : ∀ (b : Frame) (k : List Item) (cs : List Frame), step P (lone (b.at a (.inRegion ops (i :: rest) :: k)) cs w) = .next (lone (b.at (a.put o.dst v) (.inRegion ops rest :: k)) cs w'))
    (hK : OpsWp P ops Q rest (a.put o.dst v) w') : OpsWp P ops Q (i :: rest) a w := by
  intro b k cs
  obtain ⟨e, a', w2, hq, harr⟩ := hK b k cs
  exact ⟨e, a', w2, hq, .of_steps (.one (h b k cs)) harr⟩

theorem wp_region_opsWp {id : Nat} (h : OpsWp P ops Q (List.range ops.size) a w) : (Code.region id ops false).wp P Q a w :=
  fun b k cs => let ⟨e, a', w', q, r⟩ := h b k cs; ⟨e, a', w', q, .of_steps (.one step_region) r⟩
end
end Go.Ev
