/- The framework, part M: a region whose order is open, and not all of which only computes: what only computes may come first; of the rest, all orders. -/
import Derived.Test.YtaeaipkjlhigmaaEvJ
namespace Go.Ev

section
variable {P : Program} {ops : Array Oper}

/-! ### orders, with lists -/

theorem mem_rdyL {l : List Nat} {j : Nat} : j ∈ rdyL ops l ↔ rdyB ops l j = true := by
  unfold rdyL
  rw [List.mem_filter, List.mem_range]
  constructor
  · exact fun h => h.2
  · intro h
    refine ⟨?_, h⟩
    unfold rdyB at h
    simp only [Bool.and_eq_true] at h
    cases ho : ops[j]? with
    | none => rw [ho] at h; cases h.2
    | some o => exact (Array.getElem?_eq_some_iff.1 ho).1

theorem rdyB_spec {l : List Nat} {j : Nat} : rdyB ops l j = true ↔ memN j l = false ∧ ∃ o, ops[j]? = some o ∧ rdyO l o = true := by
  unfold rdyB
  simp only [Bool.and_eq_true, Bool.not_eq_true']
  cases ho : ops[j]? with
  | none => simp
  | some o => simp

theorem rdyO_mono {l : List Nat} {i : Nat} {o : Oper} (h : rdyO l o = true) : rdyO (i :: l) o = true := by
  unfold rdyO at *
  rw [List.all_eq_true] at *
  intro e he
  have := h e he
  simp only [Bool.or_eq_true] at this ⊢
  rcases this with h | h
  · exact .inl h
  · exact .inr (by simp [memN, h])

theorem memN_cons_ne {i j : Nat} {l : List Nat} (h : j ≠ i) : memN j (i :: l) = memN j l := by
  simp [memN, beq_ne h]

theorem rdyB_mono {l : List Nat} {i j : Nat} (h : rdyB ops l j = true) (hne : j ≠ i) : rdyB ops (i :: l) j = true := by
  rw [rdyB_spec] at *
  obtain ⟨h0, o, ho, hr⟩ := h
  exact ⟨by rw [memN_cons_ne hne]; exact h0, o, ho, rdyO_mono hr⟩

/-! ### any order, over a class of worlds -/

def Grow (C : World → Prop) : Prop := ∀ w w', C w → RowKit.Below w.heap.size w w' → C w'

def opW (P : Program) (ops : Array Oper) (i : Nat) (K : Act → World → Prop) (a : Act) (w : World) : Prop :=
  match ops[i]? with
  | none => K a w
  | some o => if Region.wanted o (yielded ops a.tmps) then o.wp P a w K (fun _ _ _ => False) else K (a.put o.dst undef) w

def storeAt (ops : Array Oper) (i : Nat) : Bool :=
  match ops[i]? with
  | some o => isStore o.op
  | none => false

variable {N : Nat} {Hr : Claim} {Qx : Act → World → Prop}

def Pres (ops : Array Oper) (N : Nat) (Hr : Claim) (i : Nat) (w w' : World) : Prop :=
  storeAt ops i = false → ∀ b, b < N → Hr b = none → w'.heap[b]? = w.heap[b]?

def W (P : Program) (ops : Array Oper) (N : Nat) (Hr : Claim) (Qx : Act → World → Prop) : Nat → List Nat → Act → (World → Prop) → Claim → Prop
  | 0, l, a, C, _ => rdyL ops l = [] ∧ ∀ w, C w → Qx a w
  | n + 1, l, a, C, S => (rdyL ops l = [] → ∀ w, C w → Qx a w) ∧
      ∀ i, i ∈ rdyL ops l → ∀ w, C w → opW P ops i (fun a' w' => ∃ C' S', C' w' ∧ Grow C' ∧ S.le S' ∧ (∀ v, C' v → S'.holds v ∧ N ≤ v.heap.size) ∧ Pres ops N Hr i w w' ∧
        W P ops N Hr Qx n (i :: l) a' C' S') a w

theorem wp_panicless {o : Oper} {a : Act} {w : World} {K : Act → World → Prop} {Q' : Exit → Act → World → Prop} (h : o.wp P a w K (fun _ _ _ => False)) : o.wp P a w K Q' := by
  unfold Oper.wp at *
  generalize (execOp a.eval o).run P w = r at *
  cases r with
  | ok n w' =>
    cases n <;> simp only [Oper.upon] at h ⊢
    case value u => exact h
    case skip => exact h
    case defer d => exact h
    case enter f args =>
      refine Calls.mono h fun e w'' he => ?_
      cases e with
      | returned u => exact he
      | panicked c => exact he.elim
      | outgrown => obtain ⟨_, _, h⟩ := he; exact h.elim
    case row row args => exact h
  | halt x w' => cases x <;> simp only [Oper.upon] at h

theorem opW_mono {i : Nat} {K K' : Act → World → Prop} {a : Act} {w : World} (h : ∀ a w, K a w → K' a w) (k : opW P ops i K a w) : opW P ops i K' a w := by
  unfold opW at *
  split at k
  · exact h _ _ k
  · split
    · rename_i hw
      rw [if_pos hw] at k
      exact Oper.wp_mono h k
    · rename_i hw
      rw [if_neg hw] at k
      exact h _ _ k

theorem W_anti {n : Nat} {l : List Nat} {a : Act} {C C' : World → Prop} {S : Claim} (h : W P ops N Hr Qx n l a C S) (hc : ∀ w, C' w → C w) : W P ops N Hr Qx n l a C' S := by
  cases n with
  | zero => exact ⟨h.1, fun w hw => h.2 w (hc w hw)⟩
  | succ n => exact ⟨fun e w hw => h.1 e w (hc w hw), fun i hi w hw => h.2 i hi w (hc w hw)⟩

theorem rdyO_cong {l l' : List Nat} (h : ∀ k, memN k l = memN k l') (o : Oper) : rdyO l o = rdyO l' o := by
  unfold rdyO
  congr 1
  funext e
  rw [h]
theorem rdyL_cong {l l' : List Nat} (h : ∀ k, memN k l = memN k l') : rdyL ops l = rdyL ops l' := by
  unfold rdyL
  congr 1
  funext j
  unfold rdyB
  rw [h]
  cases ops[j]? with
  | none => rfl
  | some o => simp only; rw [rdyO_cong h]

theorem W_swap : ∀ {n : Nat} {l l' : List Nat} {a : Act} {C : World → Prop} {S : Claim}, W P ops N Hr Qx n l a C S → (∀ k, memN k l = memN k l') → W P ops N Hr Qx n l' a C S
  | 0, l, l', a, C, S, h, e => ⟨by rw [← rdyL_cong e]; exact h.1, h.2⟩
  | n + 1, l, l', a, C, S, h, e => by
    refine ⟨by rw [← rdyL_cong e]; exact h.1, fun i hi w hw => ?_⟩
    rw [← rdyL_cong e] at hi
    refine opW_mono ?_ (h.2 i hi w hw)
    rintro a' w' ⟨C', S', c1, c2, c3, c4, c5, c6⟩
    exact ⟨C', S', c1, c2, c3, c4, c5, W_swap c6 (fun k => by simp [memN, e])⟩

/-- it is what the model asks -/
structure Lst (ops : Array Oper) (arr : Array Bool) (l : List Nat) : Prop where
  size : arr.size = ops.size
  mem : ∀ j, j < ops.size → arr.getD j true = memN j l
  lt : ∀ j, memN j l = true → j < ops.size

theorem Lst.getD_false {arr : Array Bool} {l : List Nat} (h : Lst ops arr l) (j : Nat) : arr.getD j false = memN j l := by
  by_cases hj : j < ops.size
  · rw [← h.mem j hj]
    have : j < arr.size := by rw [h.size]; exact hj
    simp [this]
  · have : ¬ j < arr.size := by rw [h.size]; exact hj
    cases hm : memN j l with
    | true => exact absurd (h.lt j hm) hj
    | false => simp [this]

theorem Lst.ready {arr : Array Bool} {l : List Nat} (h : Lst ops arr l) (j : Nat) : j ∈ Region.ready .any ops arr ↔ j ∈ rdyL ops l := by
  rw [mem_ready, mem_rdyL, rdyB_spec]
  constructor
  · rintro ⟨h0, o, ho, hall⟩
    have hlt : j < ops.size := (Array.getElem?_eq_some_iff.1 ho).1
    refine ⟨by rw [← h.mem j hlt]; exact h0, o, ho, ?_⟩
    unfold rdyO
    rw [List.all_eq_true]
    intro e he
    cases hb : bnd e with
    | false => rfl
    | true =>
      have := hall e (by simpa using he) hb
      rw [h.getD_false] at this
      simpa using this
  · rintro ⟨h0, o, ho, hall⟩
    have hlt : j < ops.size := (Array.getElem?_eq_some_iff.1 ho).1
    refine ⟨by rw [h.mem j hlt]; exact h0, o, ho, fun e he hb => ?_⟩
    have := List.all_eq_true.1 hall e (by simpa using he)
    rw [h.getD_false]
    have hb' : bnd e = true := hb
    rw [hb'] at this
    simpa using this

theorem Lst.set {arr : Array Bool} {l : List Nat} (h : Lst ops arr l) {i : Nat} (hi : i < ops.size) : Lst ops (arr.setIfInBounds i true) (i :: l) := by
  have hi' : i < arr.size := by rw [h.size]; exact hi
  refine ⟨by simp [h.size], fun j hj => ?_, fun j hj => ?_⟩
  · by_cases e : j = i
    · subst e; simp [memN, hi']
    · rw [memN_cons_ne e, getD_set_ne true (Ne.symm e)]; exact h.mem j hj
  · by_cases e : j = i
    · subst e; exact hi
    · rw [memN_cons_ne e] at hj; exact h.lt j hj

theorem wpAny_of_W {Q' : Exit → Act → World → Prop} (hQ : ∀ a w, Qx a w → Q' .normal a w) :
    ∀ (n : Nat) (l : List Nat) (arr : Array Bool) (a : Act) (w : World) (C : World → Prop) (S : Claim), Lst ops arr l → C w → W P ops N Hr Qx n l a C S → wpAny P .any ops Q' n arr a w
  | 0, l, arr, a, w, C, S, hl, hc, h => by
    refine ⟨?_, hQ _ _ (h.2 w hc)⟩
    rw [List.eq_nil_iff_forall_not_mem]
    intro j hj
    rw [hl.ready, h.1] at hj
    cases hj
  | n + 1, l, arr, a, w, C, S, hl, hc, h => by
    refine ⟨fun e => hQ _ _ (h.1 ?_ w hc), fun i hi => ?_⟩
    · rw [List.eq_nil_iff_forall_not_mem]
      intro j hj
      rw [← hl.ready, e] at hj
      cases hj
    · have hi' := (hl.ready i).1 hi
      have hlt : i < ops.size := by
        obtain ⟨_, o, ho, _⟩ := rdyB_spec.1 (mem_rdyL.1 hi')
        exact (Array.getElem?_eq_some_iff.1 ho).1
      have h2 := h.2 i hi' w hc
      have key : ∀ a' w', (∃ C' S', C' w' ∧ Grow C' ∧ S.le S' ∧ (∀ v, C' v → S'.holds v ∧ N ≤ v.heap.size) ∧ Pres ops N Hr i w w' ∧ W P ops N Hr Qx n (i :: l) a' C' S') → wpAny P .any ops Q' n (arr.setIfInBounds i true) a' w' := by
        rintro a' w' ⟨C', S', c1, _, _, _, _, c6⟩
        exact wpAny_of_W hQ n _ _ _ _ C' S' (hl.set hlt) c1 c6
      unfold opW at h2
      unfold wpOp
      cases ho : ops[i]? with
      | none => rw [ho] at h2; exact key _ _ h2
      | some o =>
        rw [ho] at h2
        simp only at h2 ⊢
        split
        · rename_i hw
          rw [if_pos hw] at h2
          exact .inl (wp_panicless (Oper.wp_mono key h2))
        · rename_i hw
          rw [if_neg hw] at h2
          exact key _ _ h2

/-! ### what may come first -/

def YieldsS (P : Program) (ops : Array Oper) (D : World → Prop) (o : Oper) (v : Value) (a : Act) : Prop :=
  (Region.wanted o (yielded ops a.tmps) = true ∧ ∀ w, D w → o.quietAt P a (RowKit.Below w.heap.size w) w v) ∨
  (Region.wanted o (yielded ops a.tmps) = false ∧ v = undef)

theorem YieldsS.of_same {D : World → Prop} {o : Oper} {v : Value} {a a' : Act} (hy : YieldsS P ops D o v a) (he : execOp a'.eval o = execOp a.eval o)
    (hw : Region.wanted o (yielded ops a'.tmps) = Region.wanted o (yielded ops a.tmps)) : YieldsS P ops D o v a' := by
  unfold YieldsS Oper.quietAt at *
  rw [he, hw]
  exact hy

theorem YieldsS.opW {D : World → Prop} {i : Nat} {o : Oper} {v : Value} {a : Act} {w : World} {K : Act → World → Prop} (hi : ops[i]? = some o) (hy : YieldsS P ops D o v a) (hd : D w)
    (h : ∀ w', RowKit.Below w.heap.size w w' → K (a.put o.dst v) w') : opW P ops i K a w := by
  unfold Ev.opW
  rw [hi]
  simp only
  rcases hy with ⟨hw, hv⟩ | ⟨hw, rfl⟩
  · rw [if_pos hw]
    have h3 := hv w hd
    unfold Oper.quietAt at h3
    unfold Oper.wp
    generalize (execOp a.eval o).run P w = r at *
    cases r with
    | ok n w' =>
      cases n <;> simp only [Oper.quietUpon] at h3 <;> simp only [Oper.upon]
      case value u =>
        obtain ⟨e1, e2⟩ := h3
        rw [e1, e2]
        exact h _ (RowKit.Below.refl _ _)
      case skip =>
        obtain ⟨e1, e2⟩ := h3
        rw [e1, ← e2]
        exact h _ (RowKit.Below.refl _ _)
      case enter f args =>
        obtain ⟨e1, hc⟩ := h3
        rw [e1]
        exact hc.mono fun e w'' ⟨he, hw''⟩ => by subst he; exact h _ hw''
    | halt x w' => simp only [Oper.quietUpon] at h3
  · rw [if_neg (by simp [hw])]
    exact h _ (RowKit.Below.refl _ _)

theorem opW_put {D : World → Prop} {j : Nat} {oi oj : Oper} {v : Value} (hj : ops[j]? = some oj) (hap : oi.apart ops oj = true)
    (hsi : ∀ cs b, oi.op ≠ .select cs b) (hsj : ∀ cs b, oj.op ≠ .select cs b) {K : Act → World → Prop} {a : Act} {w : World}
    (hy : YieldsS P ops D oi v a) (h : opW P ops j K (a.put oi.dst v) w) : opW P ops j (fun a' w' => YieldsS P ops D oi v a' ∧ K (a'.put oi.dst v) w') a w := by
  obtain ⟨h1, h2, h3⟩ := Oper.apart_spec hap
  have keep : ∀ (b : Act), YieldsS P ops D oi v b → ∀ u, YieldsS P ops D oi v (b.put oj.dst u) := fun b hb u =>
    hb.of_same (execOp_put oi hsi b oj.dst u h3) (wanted_put oi b oj.dst u h3)
  have fin : ∀ (b : Act), YieldsS P ops D oi v b → ∀ u w', K ((b.put oi.dst v).put oj.dst u) w' → YieldsS P ops D oi v (b.put oj.dst u) ∧ K ((b.put oj.dst u).put oi.dst v) w' :=
    fun b hb u w' hk => ⟨keep b hb u, by rw [← Act.put_comm b v u h2]; exact hk⟩
  unfold Ev.opW at *
  rw [hj] at *
  simp only at *
  rw [wanted_put oj a oi.dst v h1] at h
  split
  · rename_i hw
    rw [if_pos hw] at h
    unfold Oper.wp at *
    rw [execOp_put oj hsj a oi.dst v h1] at h
    generalize (execOp a.eval oj).run P w = r at *
    cases r with
    | ok n w' =>
      cases n <;> simp only [Oper.upon] at h ⊢
      case value u => exact fin a hy u _ h
      case skip => exact fin a hy _ _ h
      case defer d =>
        refine fin _ (hy.of_same (a' := { a with defers := d :: a.defers }) rfl rfl) _ _ ?_
        rw [← Act.put_defers]
        exact h
      case enter f args =>
        refine Calls.mono h fun e w'' he => ?_
        cases e with
        | returned u => exact fin a hy u _ he
        | panicked c => exact he
        | outgrown => exact he
      case row row args => exact Rows.mono h fun u w'' he => fin a hy u _ he
    | halt x w' =>
      cases x <;> simp only [Oper.upon] at h ⊢
  · rename_i hw
    rw [if_neg hw] at h
    exact fin a hy _ _ h

/-- what the box held -/
def Bx : Option (Nat × List Value) → World → Prop
  | none, _ => True
  | some (b, cs), w => ∃ ty, w.heap[b]? = some (.cells cs.toArray ty (0, 0))

theorem Bx.grow (x : Option (Nat × List Value)) : Grow (Bx x) := by
  intro w w' h hb
  cases x with
  | none => trivial
  | some y =>
    obtain ⟨ty, h⟩ := h
    exact ⟨ty, by rw [hb.block _ (Array.getElem?_eq_some_iff.1 h).1]; exact h⟩

theorem Claim.holds_below {S : Claim} {w w' : World} (h : S.holds w) (hb : RowKit.Below w.heap.size w w') : S.holds w' := by
  intro b o e
  have := h b o e
  rw [hb.block _ (Array.getElem?_eq_some_iff.1 this).1]
  exact this

theorem W_first {i : Nat} {oi : Oper} {v : Value} {S0 : Claim} {x : Option (Nat × List Value)} (hi : ops[i]? = some oi) (hsel : ∀ (j : Nat) (o : Oper) cs b, ops[j]? = some o → o.op ≠ .select cs b)
    (hx : ∀ y, x = some y → y.1 < N ∧ Hr y.1 = none) :
    ∀ (fuel : Nat) (l : List Nat) (a : Act) (C : World → Prop) (S : Claim),
      (∀ j oj, ops[j]? = some oj → j ≠ i → memN j l = false → (∀ e ∈ oj.after.toList, bnd e = true → e.on ≠ i) → oi.apart ops oj = true ∧ (x ≠ none → isStore oj.op = false)) →
      rdyB ops l i = true → YieldsS P ops (fun w => S0.holds w ∧ Bx x w) oi v a → Grow C → S0.le S → (∀ w, C w → S.holds w ∧ Bx x w ∧ N ≤ w.heap.size) →
      W P ops N Hr Qx fuel (i :: l) (a.put oi.dst v) C S → W P ops N Hr Qx (fuel + 1) l a C S := by
  intro fuel
  induction fuel with
  | zero =>
    intro l a C S _ hr hy hg hle hC H
    refine ⟨fun h => (by rw [← mem_rdyL, h] at hr; cases hr), fun j hj w hw => ?_⟩
    by_cases hji : j = i
    · subst hji
      obtain ⟨k1, k2, k3⟩ := hC w hw
      refine hy.opW hi ⟨Claim.holds_le k1 hle, k2⟩ fun w' hb => ⟨C, S, hg _ _ hw hb, hg, Claim.le_refl _, fun v hv => ⟨(hC v hv).1, (hC v hv).2.2⟩, fun _ b hb' _ => ?_, H⟩
      exact hb.block _ (Nat.lt_of_lt_of_le hb' k3)
    · have := rdyB_mono (mem_rdyL.1 hj) hji
      rw [← mem_rdyL, H.1] at this
      cases this
  | succ fuel ih =>
    intro l a C S hfree hr hy hg hle hC H
    refine ⟨fun h => (by rw [← mem_rdyL, h] at hr; cases hr), fun j hj w hw => ?_⟩
    obtain ⟨k1, k2, k3⟩ := hC w hw
    by_cases hji : j = i
    · subst hji
      refine hy.opW hi ⟨Claim.holds_le k1 hle, k2⟩ fun w' hb => ⟨C, S, hg _ _ hw hb, hg, Claim.le_refl _, fun v hv => ⟨(hC v hv).1, (hC v hv).2.2⟩, fun _ b hb' _ => ?_, H⟩
      exact hb.block _ (Nat.lt_of_lt_of_le hb' k3)
    · have hj' := mem_rdyL.1 hj
      obtain ⟨hjun, oj, hoj, hro⟩ := rdyB_spec.1 hj'
      have hiun := (rdyB_spec.1 hr).1
      have hnot : ∀ e ∈ oj.after.toList, bnd e = true → e.on ≠ i := by
        intro e he hb heq
        have := List.all_eq_true.1 hro e he
        rw [hb, heq, hiun] at this
        cases this
      obtain ⟨hap, hns⟩ := hfree j oj hoj hji hjun hnot
      have h1 := H.2 j (mem_rdyL.2 (rdyB_mono hj' hji)) w hw
      have h2 := opW_put hoj hap (fun cs b => hsel i oi cs b hi) (fun cs b => hsel j oj cs b hoj) hy h1
      refine opW_mono ?_ h2
      rintro a' w' ⟨hy', C', S', c1, c2, c3, c4, c5, c6⟩
      have hbx : Bx x w' := by
        cases x with
        | none => trivial
        | some y =>
          obtain ⟨y1, y2⟩ := hx y rfl
          obtain ⟨ty, hty⟩ := k2
          refine ⟨ty, ?_⟩
          rw [c5 (by unfold storeAt; rw [hoj]; exact hns (by simp)) _ y1 y2]
          exact hty
      refine ⟨fun u => C' u ∧ Bx x u, S', ⟨c1, hbx⟩, fun u u' hu hb => ⟨c2 _ _ hu.1 hb, Bx.grow x _ _ hu.2 hb⟩, c3, fun u hu => c4 u hu.1, c5, ?_⟩
      refine ih (j :: l) a' _ S' ?_ (rdyB_mono hr (Ne.symm hji)) hy' (fun u u' hu hb => ⟨c2 _ _ hu.1 hb, Bx.grow x _ _ hu.2 hb⟩) (Claim.le_trans hle c3) (fun u hu => ⟨(c4 u hu.1).1, hu.2, (c4 u hu.1).2⟩) ?_
      · intro k ok hk hki hun hno
        refine hfree k ok hk hki ?_ hno
        by_cases hkj : k = j
        · subst hkj; exact hjun
        · rw [memN_cons_ne hkj] at hun; exact hun
      · refine W_anti (W_swap c6 ?_) (fun u hu => hu.1)
        intro k
        by_cases e1 : k = i <;> by_cases e2 : k = j <;> simp [memN, e1, e2, Bool.or_comm, Bool.or_left_comm]
end

/-! ### the evaluator's walk -/

section
variable {cx : Cx} {fx : Fx} {c0 : World} {G0 H0 : Claim} {E : Env} {Q : Value → Claim → Claim → Prop} {ops : Array Oper}

theorem allT_wp {P : Program} {G H : Claim} : ∀ {l : List T}, (allT l).wp P E G H Q → ∀ t ∈ l, t.wp P E G H Q
  | [], h, t, ht => by cases ht
  | [t], h, u, hu => by
    simp at hu
    subst hu
    exact h
  | t :: u :: l, h, v, hv => by
    obtain ⟨h1, h2⟩ := h
    simp only [List.mem_cons] at hv
    rcases hv with rfl | hv
    · exact h1
    · exact allT_wp (l := u :: l) h2 v (by simpa using hv)

/-- a state without boxes -/
def St.noBox (σ : St) : St := { σ with box := fun _ => none }

theorem rdT_nobox (σ : St) (g : List (Nat × Bool)) (i : Nat) : Ev.rdT σ.noBox g i = Ev.rdT σ g i := rfl
theorem rd_nobox (σ : St) (g : List (Nat × Bool)) : Ev.rd σ.noBox g = Ev.rd σ g := by
  funext x
  cases x <;> rfl
theorem parts_nobox (σ : St) (g : List (Nat × Bool)) : ∀ l, parts? σ.noBox g l = parts? σ g l
  | [] => rfl
  | p :: l => by simp only [parts?, rd_nobox, parts_nobox σ g l]

theorem eff_nobox (σ : St) (g : List (Nat × Bool)) (o : Oper) (h : boxLoad σ g o = none) : effOf cx fx σ.noBox g o = effOf cx fx σ g o := by
  unfold effOf
  cases ho : o.op
  case load t x =>
    unfold boxLoad at h
    rw [ho] at h
    simp only at h ⊢
    unfold eff
    rw [ho]
    simp only [rd_nobox]
    cases hr : Ev.rd σ g x with
    | bp id off => rw [hr] at h; cases h
    | v y => rfl
    | junk => rfl
  case slice t x lo hi mx =>
    simp only
    unfold eff
    rw [ho]
    cases mx <;> cases hi <;> simp only [rd_nobox]
  case recv t x b =>
    simp only
    unfold eff
    rw [ho]
    cases b <;> simp only [rd_nobox]
  case select cs b =>
    simp only
    unfold eff
    rw [ho]
    cases b <;> simp only [rd_nobox]
  case pick c x y => simp only [effPick, rd_nobox, rdT_nobox]
  all_goals (simp only; unfold eff; rw [ho]; try simp only [rd_nobox, parts_nobox, effCall])

theorem effQuiet_box {σ : St} {g : List (Nat × Bool)} {o : Oper} {id : Nat} (h : boxLoad σ g o = some id) (hq : effQuiet (effOf cx fx σ g o) = true) :
    ∃ cs, σ.box id = some cs ∧ ∀ box', box' id = some cs → effOf cx fx { σ with box := box' } g o = effOf cx fx σ g o := by
  unfold boxLoad at h
  cases ho : o.op <;> rw [ho] at h <;> try (cases h; done)
  rename_i t x
  simp only at h
  cases hr : Ev.rd σ g x with
  | bp id' off =>
    rw [hr] at h
    simp at h
    subst h
    unfold effOf eff at hq
    rw [ho] at hq
    simp only [hr] at hq
    cases hb : σ.box id' with
    | none => rw [hb] at hq; simp [effQuiet] at hq
    | some cs =>
      refine ⟨cs, rfl, fun box' hb' => ?_⟩
      have hr' : Ev.rd { σ with box := box' } g x = .bp id' off := hr
      unfold effOf eff
      rw [ho]
      simp only [hr, hr', hb, hb']
  | v y => rw [hr] at h; cases h
  | junk => rw [hr] at h; cases h

def sOf (m : Bool) (G H : Claim) : Claim := match m with
  | true => G.and H
  | false => G

/-- the relation, in a world of which only some is known -/
theorem Rel.alone {B : Nat → Nat} {σ : St} {G H : Claim} {a : Act} {c : World} (hr : Rel c0 G0 H0 B σ G H a c) {box' : Nat → Option (List Value)} {w : World}
    (hb : ∀ id cs, box' id = some cs → σ.box id ≠ none ∧ ∃ ty, w.heap[B id]? = some (.cells cs.toArray ty (0, 0))) :
    Rel { w with heap := #[] } Claim.none Claim.none B { σ with box := box' } Claim.none Claim.none a w where
  inv := ⟨rfl, rfl, rfl, Nat.zero_le _, fun b hb _ => absurd hb (Nat.not_lt_zero _), Claim.le_refl _, fun _ _ e => (by cases e), fun _ _ e => (by cases e), fun _ => .inl rfl, fun b hb _ => absurd hb (Nat.not_lt_zero _),
    fun b hb _ => absurd hb (Nat.not_lt_zero _), fun _ _ e => (by cases e)⟩
  wf := ⟨hr.wf.t, hr.wf.gt, fun id h => by
    cases e : box' id with
    | none => exact absurd e h
    | some cs => exact hr.wf.box id (hb id cs e).1⟩
  size := hr.size
  defers := hr.defers
  t := hr.t
  gt := hr.gt
  box := fun id cs e => by
    obtain ⟨_, ty, h⟩ := hb id cs e
    exact ⟨ty, h, rfl, rfl, Nat.zero_le _⟩
  inj := fun i j h1 h2 e => by
    cases e1 : box' i with
    | none => exact absurd e1 h1
    | some cs => cases e2 : box' j with
      | none => exact absurd e2 h2
      | some cs' => exact hr.inj i j (hb i cs e1).1 (hb j cs' e2).1 e

theorem Inv.frz {c0 c : World} {G0 H0 G H G1 H1 : Claim} (i : Inv c0 G0 H0 c G H) (F : Frz G H G1 H1) : Inv c0 G0 H0 c G1 H1 where
  os := i.os
  tape := i.tape
  output := i.output
  size := i.size
  frame := i.frame
  mono := Claim.le_trans i.mono F.le
  gholds := fun b o e => by
    rcases F.sub b o e with e | e
    · exact i.gholds b o e
    · exact i.hholds b o e
  hholds := fun b o e => i.hholds b o (F.hle b o e)
  disj := F.disj
  gold := fun b hb hne => by
    cases e : G1 b with
    | none => exact absurd e hne
    | some o =>
      rcases F.sub b o e with e | e
      · exact i.gold b hb (by rw [e]; simp)
      · exact .inr (i.hold b hb (by rw [e]; simp))
  hold := fun b hb hne => by
    cases e : H1 b with
    | none => exact absurd e hne
    | some o => exact i.hold b hb (by rw [F.hle b o e]; simp)
  mine := fun b o e => i.mine b o (F.hle b o e)

theorem Frz.none {G H G1 H1 : Claim} (F : Frz G H G1 H1) {b : Nat} (h1 : G b = Option.none) (h2 : H b = Option.none) : G1 b = Option.none ∧ H1 b = Option.none := by
  constructor
  · cases e : G1 b with
    | none => rfl
    | some o => rcases F.sub b o e with e | e <;> simp_all
  · cases e : H1 b with
    | none => rfl
    | some o => have := F.hle b o e; simp_all

theorem Rel.frz {B : Nat → Nat} {σ : St} {G H G1 H1 : Claim} {a : Act} {c : World} (hr : Rel c0 G0 H0 B σ G H a c) (F : Frz G H G1 H1) : Rel c0 G0 H0 B σ G1 H1 a c where
  inv := hr.inv.frz F
  wf := hr.wf
  size := hr.size
  defers := hr.defers
  t := hr.t
  gt := hr.gt
  box := fun id cs e => by
    obtain ⟨ty, h1, h2, h3, h4⟩ := hr.box id cs e
    obtain ⟨k1, k2⟩ := F.none h2 h3
    exact ⟨ty, h1, k1, k2, h4⟩
  inj := hr.inj

theorem W_weak {P : Program} {N : Nat} {Hr : Claim} {Qx : Act → World → Prop} {n : Nat} {l : List Nat} {a : Act} {C : World → Prop} {S S' : Claim} (h : W P ops N Hr Qx n l a C S') (hs : S.le S') : W P ops N Hr Qx n l a C S := by
  cases n with
  | zero => exact h
  | succ n =>
    refine ⟨h.1, fun i hi w hw => opW_mono ?_ (h.2 i hi w hw)⟩
    rintro a' w' ⟨C', S2, c1, c2, c3, c4⟩
    exact ⟨C', S2, c1, c2, Claim.le_trans hs c3, c4⟩

theorem quiet_step (hgood : ∀ f, cx.good f = true → GoodFn cx.P f) (heq : ∀ t, cx.eqT t = true → EqOK cx t) {m : Bool} {B : Nat → Nat} {σ : St} {G H : Claim} {a : Act} {c : World}
    (hr : Rel c0 G0 H0 B σ G H a c) {o : Oper} {g : List (Nat × Bool)} {b : Bool} (h1 : b = true ↔ Sat g a.tmps) (h2 : Region.wanted o (yielded ops a.tmps) = b)
    (hq : effQuiet (effOf cx fx σ g o) = true) {x : Option (Nat × List Value)} (hx : ∀ id, boxLoad σ g o = some id → ∃ cs, σ.box id = some cs ∧ x = some (B id, cs)) {k : St → T}
    (hw : (stepQ m σ o.dst g b k (effOf cx fx σ g o)).wp cx.P E G H Q) :
    ∃ v av σ' G1 H1, Frz G H G1 H1 ∧ (m = true → G1 = G ∧ H1 = H) ∧ YieldsS cx.P ops (fun w => (sOf m G1 H1).holds w ∧ Bx x w) o v a ∧ σ.put o.dst g b av = some σ' ∧ (k σ').wp cx.P E G1 H1 Q ∧ (b = true → vrel B av v) ∧ (b = false → v = undef) := by
  -- in whatever world
  have hs : b = true → ∀ w, Bx x w → EffSem cx.P B w (effOf cx fx σ g o) ((execOp a.eval o).run cx.P w) := by
    intro hb w hbx
    cases hl : boxLoad σ g o with
    | none =>
      rw [← eff_nobox σ g o hl]
      exact eff_sound (hr.alone (box' := fun _ => none) (w := w) (fun id cs e => by cases e)) (h1.1 hb) hgood heq
    | some id =>
      obtain ⟨cs, hcs, rfl⟩ := hx id hl
      obtain ⟨cs', hcs', he⟩ := effQuiet_box hl hq
      have e2 : cs' = cs := by rw [hcs] at hcs'; simpa using hcs'.symm
      subst e2
      rw [← he (upd (fun _ => none) id (some cs')) (upd_same _ _ _)]
      refine eff_sound (hr.alone (box' := upd (fun _ => none) id (some cs')) (w := w) (fun i ds e => ?_)) (h1.1 hb) hgood heq
      by_cases ei : i = id
      · subst ei
        rw [upd_same] at e
        cases e
        exact ⟨by rw [hcs]; simp, hbx⟩
      · rw [upd_ne _ _ ei] at e; cases e
  have conc : ∀ x : AVal, x.isJunk = false → ∃ v, ∀ u, vrel B x u ↔ u = v := by
    intro x hx
    cases x with
    | v y => exact ⟨y, fun u => Iff.rfl⟩
    | bp id off => exact ⟨.pointer (some ⟨B id, off, none⟩), fun u => Iff.rfl⟩
    | junk => cases hx
  have fin : ∀ {av : AVal} {v : Value} {G1 H1 : Claim}, Frz G H G1 H1 → (m = true → G1 = G ∧ H1 = H) → (∃ σ', σ.put o.dst g b av = some σ' ∧ (k σ').wp cx.P E G1 H1 Q) → (b = true → vrel B av v) → (b = true → ∀ w, (sOf m G1 H1).holds w → Bx x w → o.quietAt cx.P a (RowKit.Below w.heap.size w) w v) →
      (b = false → v = undef) → ∃ v av σ' G1 H1, Frz G H G1 H1 ∧ (m = true → G1 = G ∧ H1 = H) ∧ YieldsS cx.P ops (fun w => (sOf m G1 H1).holds w ∧ Bx x w) o v a ∧ σ.put o.dst g b av = some σ' ∧ (k σ').wp cx.P E G1 H1 Q ∧ (b = true → vrel B av v) ∧ (b = false → v = undef) := by
    rintro av v G1 H1 F hm ⟨σ', hp, hk⟩ k1 k2 k3
    refine ⟨v, av, σ', G1, H1, F, hm, ?_, hp, hk, k1, k3⟩
    cases hb : b with
    | true => exact .inl ⟨by rw [h2, hb], fun w hw => k2 hb w hw.1 hw.2⟩
    | false => exact .inr ⟨by rw [h2, hb], k3 hb⟩
  have F0 := Frz.refl hr.inv.disj
  have m0 : m = true → G = G ∧ H = H := fun _ => ⟨rfl, rfl⟩
  generalize he : effOf cx fx σ g o = e at hw hs hq
  cases e with
  | val av =>
    have hp : ∃ σ', σ.put o.dst g b av = some σ' ∧ (k σ').wp cx.P E G H Q := by
      cases m <;> exact match_put hw
    simp only [effQuiet, Bool.not_eq_true'] at hq
    obtain ⟨v, hv⟩ := conc av hq
    rcases Bool.eq_false_or_eq_true b with hb | hb
    rotate_left
    · exact fin (v := undef) F0 m0 hp (fun h => by rw [hb] at h; cases h) (fun h => by rw [hb] at h; cases h) (fun _ => rfl)
    · refine fin (v := v) F0 m0 hp (fun _ => (hv v).2 rfl) (fun _ w _ hbx => ?_) (fun h => by rw [hb] at h; cases h)
      obtain ⟨u, hu, hvu⟩ := hs hb w hbx
      unfold Oper.quietAt
      rw [hu]
      exact ⟨rfl, (hv u).1 hvu⟩
  | must p av =>
    have hw' : (b = true → p) ∧ ∃ σ', σ.put o.dst g b av = some σ' ∧ (k σ').wp cx.P E G H Q := by
      cases m <;> exact ⟨hw.1, match_put hw.2⟩
    obtain ⟨hpp, hp⟩ := hw'
    simp only [effQuiet, Bool.not_eq_true'] at hq
    obtain ⟨v, hv⟩ := conc av hq
    rcases Bool.eq_false_or_eq_true b with hb | hb
    rotate_left
    · exact fin (v := undef) F0 m0 hp (fun h => by rw [hb] at h; cases h) (fun h => by rw [hb] at h; cases h) (fun _ => rfl)
    · refine fin (v := v) F0 m0 hp (fun _ => (hv v).2 rfl) (fun _ w _ hbx => ?_) (fun h => by rw [hb] at h; cases h)
      obtain ⟨u, hu, hvu⟩ := hs hb w hbx (hpp hb)
      unfold Oper.quietAt
      rw [hu]
      exact ⟨rfl, (hv u).1 hvu⟩
  | dcall f args sh =>
    have hw' : ∃ G1 H1, Frz G H G1 H1 ∧ (m = true → G1 = G ∧ H1 = H) ∧ ∃ r, (b = true → PureAt cx.P f args (sOf m G1 H1) sh r) ∧ ∃ σ', σ.put o.dst g b (.v (sh.enc r)) = some σ' ∧ (k σ').wp cx.P E G1 H1 Q := by
      cases m with
      | true => obtain ⟨r, k1, k2⟩ := hw; exact ⟨G, H, F0, m0, r, k1, match_put k2⟩
      | false => obtain ⟨G1, H1, F, r, k1, k2⟩ := hw; exact ⟨G1, H1, F, (fun h => by cases h), r, k1, match_put k2⟩
    obtain ⟨G1, H1, F, hm1, r, hpure, hp⟩ := hw'
    rcases Bool.eq_false_or_eq_true b with hb | hb
    rotate_left
    · exact fin (v := undef) F hm1 hp (fun h => by rw [hb] at h; cases h) (fun h => by rw [hb] at h; cases h) (fun _ => rfl)
    · refine fin (v := sh.enc r) F hm1 hp (fun _ => rfl) (fun _ w hS hbx => ?_) (fun h => by rw [hb] at h; cases h)
      have hrun := hs hb w hbx
      simp only [EffSem] at hrun
      unfold Oper.quietAt
      rw [hrun]
      exact ⟨rfl, hpure hb w hS⟩
  | load sh ad =>
    have hw' : ∃ G1 H1, Frz G H G1 H1 ∧ (m = true → G1 = G ∧ H1 = H) ∧ ∃ r, (b = true → (sOf m G1 H1).at ad (sh.flat r)) ∧ ∃ σ', σ.put o.dst g b (.v (sh.enc r)) = some σ' ∧ (k σ').wp cx.P E G1 H1 Q := by
      cases m with
      | true => obtain ⟨r, k1, k2⟩ := hw; exact ⟨G, H, F0, m0, r, k1, match_put k2⟩
      | false => obtain ⟨G1, H1, F, r, k1, k2⟩ := hw; exact ⟨G1, H1, F, (fun h => by cases h), r, k1, match_put k2⟩
    obtain ⟨G1, H1, F, hm1, r, hat, hp⟩ := hw'
    rcases Bool.eq_false_or_eq_true b with hb | hb
    rotate_left
    · exact fin (v := undef) F hm1 hp (fun h => by rw [hb] at h; cases h) (fun h => by rw [hb] at h; cases h) (fun _ => rfl)
    · refine fin (v := sh.enc r) F hm1 hp (fun _ => rfl) (fun _ w hS hbx => ?_) (fun h => by rw [hb] at h; cases h)
      have hrun := hs hb w hbx r (fun i v hv => Claim.cell_of hS (hat hb i v hv))
      unfold Oper.quietAt
      rw [hrun]
      exact ⟨rfl, rfl⟩
  | call _ _ _ => cases hq
  | loadStr _ _ => cases hq
  | store _ _ => cases hq
  | setbox _ _ _ => cases hq
  | newbox _ => cases hq
  | new _ _ => cases hq
  | mk _ _ _ _ _ => cases hq
  | lit _ _ _ => cases hq
  | append _ _ _ _ _ => cases hq
  | mkObj _ => cases hq
  | trySend _ _ => cases hq
  | recv _ => cases hq
  | clear _ _ _ => cases hq
  | bad => cases hq

theorem evAny_sound (hgood : ∀ f, cx.good f = true → GoodFn cx.P f) (heq : ∀ t, cx.eqT t = true → EqOK cx t) (hsel : ∀ (j : Nat) (o : Oper) cs b, ops[j]? = some o → o.op ≠ .select cs b)
    {m : Bool} {base N : Nat} {Hr Gr : Claim} {σr : St} {k : St → T} {Qx : Act → World → Prop}
    (hQ : ∀ B' σ' G' H' a' c', Rel c0 G0 H0 B' σ' G' H' a' c' → LockOK σr σ' → Gr.le G' → (k σ').wp cx.P E G' H' Q → Qx a' c') :
    ∀ (n : Nat) (l : List Nat) {B : Nat → Nat} {σ : St} {G H : Claim} {a : Act} {c : World}, Rel c0 G0 H0 B σ G H a c → N ≤ c.heap.size → LockOK σr σ → Gr.le G → base ≤ σ.next →
      (∀ id, id < base → σ.box id ≠ none → B id < N ∧ Hr (B id) = none) → (∀ b, b < N → Hr b = none → H b = none) →
      (evAny cx fx m ops base n l σ k).wp cx.P E G H Q → W cx.P ops N Hr Qx n l a (fun w => Rel c0 G0 H0 B σ G H a w ∧ N ≤ w.heap.size) (sOf m G H)
  | 0, l, B, σ, G, H, a, c, hr, hN, hL, hG, hb, hB, hH, hw => by
    simp only [evAny] at hw
    split at hw
    · rename_i e
      exact ⟨e, fun w hC => hQ _ _ _ _ _ _ hC.1 hL hG hw⟩
    · exact hw.elim
  | n + 1, l, B, σ, G, H, a, c, hr, hN, hL, hG, hb, hB, hH, hw => by
    have hgrow : Grow (fun w => Rel c0 G0 H0 B σ G H a w ∧ N ≤ w.heap.size) := fun w w' hC hbel => ⟨hC.1.world (hC.1.inv.below hbel), Nat.le_trans hC.2 hbel.size⟩
    have hS : ∀ w, Rel c0 G0 H0 B σ G H a w → (sOf m G H).holds w := by
      intro w hR
      cases m with
      | true => exact Claim.holds_and hR.inv.gholds hR.inv.hholds
      | false => exact hR.inv.gholds
    simp only [evAny] at hw
    split at hw
    · -- one comes first
      rename_i i _
      split at hw
      · exact hw.elim
      · rename_i o ho
        split at hw
        · exact hw.elim
        · rename_i g b hg
          obtain ⟨h1, h2, h3⟩ := guardOf_spec hr hg
          cases hc : canFirst ops base l σ g i o (effOf cx fx σ g o) with
          | false => rw [hc] at hw; exact hw.elim
          | true =>
            rw [hc] at hw
            simp only [cond_true] at hw
            unfold canFirst at hc
            simp only [Bool.and_eq_true] at hc
            obtain ⟨hrd, hq, hfr, hbx⟩ := hc
            -- the box that it reads
            have hxe : ∃ x : Option (Nat × List Value), (∀ id, boxLoad σ g o = some id → ∃ cs, σ.box id = some cs ∧ x = some (B id, cs)) ∧ (∀ y, x = some y → y.1 < N ∧ Hr y.1 = none) ∧ (∀ w, Rel c0 G0 H0 B σ G H a w → Bx x w) ∧
                (x ≠ none → storesWait ops l i = true) := by
              cases hl : boxLoad σ g o with
              | none => exact ⟨none, fun id e => (by cases e), fun y e => (by cases e), fun _ _ => trivial, fun h => absurd rfl h⟩
              | some id =>
                rw [hl] at hbx
                simp only [Bool.and_eq_true, Nat.blt_eq] at hbx
                obtain ⟨cs, hcs, _⟩ := effQuiet_box hl hq
                refine ⟨some (B id, cs), ?_, ?_, ?_, fun _ => hbx.2⟩
                · intro id' e
                  cases e
                  exact ⟨cs, hcs, rfl⟩
                · intro y e
                  cases e
                  exact hB id hbx.1 (by rw [hcs]; simp)
                · intro w hR
                  obtain ⟨ty, h, _⟩ := hR.box id cs hcs
                  exact ⟨ty, h⟩
            obtain ⟨x, hx1, hx2, hx3, hx4⟩ := hxe
            obtain ⟨v, av, σ', G1, H1, F, hm1, hy, hp, hk, k1, k2⟩ := quiet_step (ops := ops) hgood heq hr h1 h2 hq hx1 hw
            have hS1 : ∀ w, Rel c0 G0 H0 B σ G H a w → (sOf m G1 H1).holds w := by
              intro w hR
              have hi := hR.inv.frz F
              cases m with
              | true => exact Claim.holds_and hi.gholds hi.hholds
              | false => exact hi.gholds
            have hSle : (sOf m G H).le (sOf m G1 H1) := by
              cases m with
              | true => obtain ⟨rfl, rfl⟩ := hm1 rfl; exact Claim.le_refl _
              | false => exact F.le
            refine W_weak (W_first ho hsel hx2 n l a _ (sOf m G1 H1) ?_ hrd hy hgrow (Claim.le_refl _) (fun w hC => ⟨hS1 w hC.1, hx3 w hC.1, hC.2⟩) ?_) hSle
            · intro j oj hoj hji hjun hno
              have hlt : j < ops.size := (Array.getElem?_eq_some_iff.1 hoj).1
              have hnoe : (oj.after.toList.any fun e => bnd e && Nat.beq e.on i) = false := by
                cases hh : (oj.after.toList.any fun e => bnd e && Nat.beq e.on i) with
                | false => rfl
                | true =>
                  obtain ⟨e, he, hbe⟩ := List.any_eq_true.1 hh
                  simp only [Bool.and_eq_true] at hbe
                  exact absurd (Nat.eq_of_beq_eq_true hbe.2) (hno e he hbe.1)
              constructor
              · have := List.all_eq_true.1 hfr j (List.mem_range.2 hlt)
                simp only [beq_ne hji, hjun, hoj, hnoe, Bool.false_or] at this
                exact this
              · intro hxn
                have := List.all_eq_true.1 (hx4 hxn) j (List.mem_range.2 hlt)
                simp only [beq_ne hji, hjun, hoj, hnoe, Bool.false_or, Bool.or_false, Bool.not_eq_true'] at this
                exact this
            · obtain ⟨hR, hL2⟩ := put_spec hr hp h1 h3 k1 k2
              have hbox := put_box hp
              refine W_anti (evAny_sound hgood heq hsel hQ n (i :: l) (hR.frz F) hN (hL.trans hL2) (Claim.le_trans hG F.le) (Nat.le_trans hb hL2.2.2.2.2.2) (fun id hid hne => hB id hid (by rw [← hbox]; exact hne)) (fun b hb hn => ?_) hk) ?_
              · have := hH b hb hn
                cases e : H1 b with
                | none => rfl
                | some o => rw [F.hle b o e] at this; cases this
              · rintro w ⟨hC, hn⟩
                exact ⟨(put_spec hC hp h1 h3 k1 k2).1.frz F, hn⟩
    · -- all that may come now
      rename_i hnone
      have hall : rdyL ops l ≠ [] → ∀ i ∈ rdyL ops l, ∃ o g b, ops[i]? = some o ∧ guardOf σ ops o = some (g, b) ∧ (m = true → effKeeps (effOf cx fx σ g o) = true) ∧ (isSetbox (effOf cx fx σ g o) = true → isStore o.op = true) ∧
          (stepT σ o.dst g b (fun σ' => evAny cx fx m ops base n (i :: l) σ' k) (effOf cx fx σ g o)).wp cx.P E G H Q := by
        intro hne i hi
        split at hw
        · rename_i e; exact absurd e hne
        · have := allT_wp hw _ (List.mem_map.2 ⟨i, hi, rfl⟩)
          split at this
          · exact this.elim
          · rename_i o ho
            split at this
            · exact this.elim
            · rename_i g b hg
              cases hc : ((!m || effKeeps (effOf cx fx σ g o)) && (!isSetbox (effOf cx fx σ g o) || isStore o.op)) with
              | false => rw [hc] at this; exact this.elim
              | true =>
                rw [hc] at this
                simp only [cond_true] at this
                simp only [Bool.and_eq_true, Bool.or_eq_true, Bool.not_eq_true'] at hc
                refine ⟨o, g, b, ho, hg, fun hm => ?_, fun hs => ?_, this⟩
                · rcases hc.1 with h | h
                  · rw [hm] at h; cases h
                  · exact h
                · rcases hc.2 with h | h
                  · rw [hs] at h; cases h
                  · exact h
      refine ⟨fun e w hC => ?_, fun i hi w hC => ?_⟩
      · rw [e] at hw
        exact hQ _ _ _ _ _ _ hC.1 hL hG hw
      · obtain ⟨o, g, b, ho, hg, hkeep, hset, hst⟩ := hall (fun e => by rw [e] at hi; cases hi) i hi
        obtain ⟨h1, h2, h3⟩ := guardOf_spec hC.1 hg
        have hs : b = true → EffSem cx.P B w (effOf cx fx σ g o) ((execOp a.eval o).run cx.P w) := fun hb => eff_sound hC.1 (h1.1 hb) hgood heq
        have := step_sound (Qx := fun _ _ _ => False) hC.1 h1 h3 hs hst (next := fun a' w' => ∃ C' S', C' w' ∧ Grow C' ∧ (sOf m G H).le S' ∧ (∀ v, C' v → S'.holds v ∧ N ≤ v.heap.size) ∧ Pres ops N Hr i w w' ∧
          W cx.P ops N Hr Qx n (i :: l) a' C' S') (fun a' w' hn => by
          obtain ⟨B', σ', G', H', hR, hL2, hle, hk, m1, m2, m3, m4, m5⟩ := hn
          have hN' : N ≤ w'.heap.size := Nat.le_trans hC.2 m3
          refine ⟨fun u => Rel c0 G0 H0 B' σ' G' H' a' u ∧ N ≤ u.heap.size, sOf m G' H', ⟨hR, hN'⟩, fun u u' hu hbel => ⟨hu.1.world (hu.1.inv.below hbel), Nat.le_trans hu.2 hbel.size⟩, ?_, ?_, ?_, ?_⟩
          · cases m with
            | true => exact m5 (hkeep rfl)
            | false => exact hle
          · intro u hu
            refine ⟨?_, hu.2⟩
            cases m with
            | true => exact Claim.holds_and hu.1.inv.gholds hu.1.inv.hholds
            | false => exact hu.1.inv.gholds
          · intro hns b' hb' hHr
            refine m4 ?_ b' (Nat.lt_of_lt_of_le hb' hC.2) (hH b' hb' hHr)
            cases hsb : isSetbox (effOf cx fx σ g o) with
            | false => rfl
            | true =>
              have := hset hsb
              unfold storeAt at hns
              rw [ho] at hns
              simp only at hns
              rw [hns] at this
              cases this
          · refine evAny_sound hgood heq hsel hQ n (i :: l) hR hN' (hL.trans hL2) (Claim.le_trans hG hle) (Nat.le_trans hb hL2.2.2.2.2.2) ?_ ?_ hk
            · intro id hid hne
              obtain ⟨e1, e2⟩ := m1 id (Nat.lt_of_lt_of_le hid hb)
              rw [e1]
              exact hB id hid (e2 hne)
            · intro b' hb' hHr
              exact m2 b' (Nat.lt_of_lt_of_le hb' hC.2) (hH b' hb' hHr))
        unfold opW
        rw [ho]
        simp only
        rw [h2]
        cases b with
        | true => rw [if_pos rfl]; exact this.1 rfl
        | false => rw [if_neg (by simp)]; exact this.2 rfl

theorem any_sound (hgood : ∀ f, cx.good f = true → GoodFn cx.P f) (heq : ∀ t, cx.eqT t = true → EqOK cx t) (hmix : cx.P.follows .mixedOrders = true) {m : Bool} {id : Nat} (hsel : noSelL ops = true)
    {B : Nat → Nat} {σ : St} {G H : Claim} {a : Act} {c : World} (hr : Rel c0 G0 H0 B σ G H a c) {k : St → T} (hw : (evAny cx fx m ops σ.next ops.size [] σ k).wp cx.P E G H Q) {Q' : Exit → Act → World → Prop}
    (hQ : ∀ B' σ' G' H' a' c', Rel c0 G0 H0 B' σ' G' H' a' c' → LockOK σ σ' → G.le G' → (k σ').wp cx.P E G' H' Q → Q' .normal a' c') : (Code.region id ops true).wp cx.P Q' a c := by
  have hsel' : ∀ (j : Nat) (o : Oper) cs b, ops[j]? = some o → o.op ≠ .select cs b := by
    intro j o cs b ho e
    have hm : o ∈ ops.toList := by
      rw [Array.mem_toList_iff]
      exact Array.mem_of_getElem? ho
    have := List.all_eq_true.1 hsel o hm
    rw [e] at this
    cases this
  have hd := (RowKit.Below.refl c.heap.size c).drew
  have hr' := hr.world (hr.inv.below hd)
  refine wp_region_any hmix ?_
  refine wpAny_of_W (N := c.heap.size) (Hr := H) (Qx := fun a' w' => Q' .normal a' w') (fun _ _ h => h) ops.size [] _ a _ _ _ ⟨by simp, fun j hj => by simp [memN, hj], fun j h => by cases h⟩ ⟨hr', hd.size⟩
    (evAny_sound hgood heq hsel' hQ ops.size [] hr' hd.size (LockOK.refl _) (Claim.le_refl _) (Nat.le_refl _) ?_ (fun _ _ h => h) hw)
  intro i _ hne
  cases hb : σ.box i with
  | none => exact absurd hb hne
  | some cs =>
    obtain ⟨ty, h1, h2, h3, h4⟩ := hr.box i cs hb
    exact ⟨(Array.getElem?_eq_some_iff.1 h1).1, h3⟩
end

end Go.Ev
