/- The framework, part F: each operation does what its effect says (memory, calls). -/
import Derived.Test.YtaeaipkjlhigmaaEvE
namespace Go.Ev

theorem run_newVar {P : Program} {w : World} {t : TypeId} {v : Value} : (newVar t v).run P w = .ok ⟨w.heap.size, 0, none⟩ (w.alloc (.cells v.cells t)) := by
  simp [newVar, newRow]

theorem toArray_toList (x : Array Value) : x.toList.toArray = x := by simp

theorem run_boundOf {P : Program} {w : World} {y : Nat} {x : AVal} {v : Value} {n : Nat} {p : Prop} {d : Nat} {code : BoundsCode} (h : boundOf y (some x) d = some (n, p)) (hv : ∀ k i, x = .v (.int k i) → v = .int k i) (hp : p) :
    (Instr.sliceBound v y code).run P w = .ok n w := by
  unfold boundOf at h
  simp only at h
  split at h
  · rename_i k i hi
    simp only [Option.some.injEq, Prod.mk.injEq] at h
    obtain ⟨rfl, rfl⟩ := h
    rw [hv k i (intOf?_some hi)]
    simp [Instr.sliceBound, asIntOf, hp]
  · cases h

theorem size_repeatL (z : List Value) (n : Nat) : (repeatL z n).length = n * z.length := by
  induction n with
  | zero => simp [repeatL]
  | succ n ih => simp [repeatL, ih, Nat.add_mul]; omega

theorem getElem?_repeatL (z : List Value) (hz : 0 < z.length) : ∀ (n i : Nat), i < n * z.length → (repeatL z n)[i]? = z[i % z.length]?
  | 0, i, h => by simp at h
  | n + 1, i, h => by
    rw [repeatL, List.getElem?_append]
    split
    · rename_i hi; rw [Nat.mod_eq_of_lt hi]
    · rename_i hi
      rw [getElem?_repeatL z hz n (i - z.length) (by rw [Nat.add_mul] at h; omega), Nat.mod_eq_sub_mod (Nat.le_of_not_lt hi)]

theorem range_repeat (z : Array Value) (n : Nat) (hz : 0 < z.size) : ((Array.range (n * z.size)).map (fun i => z[i % z.size]!)) = (repeatL z.toList n).toArray := by
  apply Array.ext'
  apply List.ext_getElem?
  intro i
  simp only [Array.toList_map, Array.toList_range, List.getElem?_map]
  by_cases hi : i < n * z.size
  · have := getElem?_repeatL z.toList (by simpa using hz) n i (by simpa using hi)
    simp only [Array.length_toList] at this
    rw [this]
    have hm := Nat.mod_lt i hz
    simp [hi, hm]
  · have : (repeatL z.toList n)[i]? = none := by rw [List.getElem?_eq_none]; rw [size_repeatL]; simpa using hi
    rw [this]
    simp [hi]

section
variable {cx : Cx} {fx : Fx} {c0 : World} {G0 H0 : Claim} {B : Nat → Nat} {σ : St} {G H : Claim} {a : Act} {c : World} {g : List (Nat × Bool)} {o : Oper}

theorem parts?_eq (h : Rel c0 G0 H0 B σ G H a c) (s : Sat g a.tmps) : ∀ (l : List (Nat × Operand)) (ps : List (Nat × Value)), parts? σ g l = some ps → l.map (fun x => (x.1, a.eval x.2)) = ps
  | [], ps, e => by simp [parts?] at e; simp [e]
  | (i, x) :: l, ps, e => by
    simp only [parts?] at e
    split at e
    · rename_i v hv
      split at e
      · rename_i r hr
        simp at e
        rw [List.map_cons, parts?_eq h s l r hr, ← e, h.rdv s hv]
      · cases e
    · cases e

theorem eff_move (h : Rel c0 G0 H0 B σ G H a c) (s : Sat g a.tmps) {x : Operand} (ho : o.op = .move x ∨ o.op = .assign x) : EffSem cx.P B c (.val (rd σ g x)) ((execOp a.eval o).run cx.P c) := by
  refine sem_val (v := a.eval x) ?_ (h.rd s x)
  rcases ho with ho | ho <;> (unfold execOp; simp [ho])

theorem eff_alloc {e : TypeId} (ho : o.op = .alloc e) : EffSem cx.P B c (eff cx fx σ g o) ((execOp a.eval o).run cx.P c) := by
  unfold eff
  rw [ho]
  simp only
  split
  · rename_i z hz
    have hr : (execOp a.eval o).run cx.P c = .ok (.value (.pointer (some ⟨c.heap.size, 0, none⟩))) (c.alloc (.cells z.cells.toList.toArray e)) := by
      unfold execOp
      rw [ho]
      simp only [Sem.run_bind, Instr.alloc, run_zeroValue hz, Result.andThen_ok, run_newVar, Sem.run_pure, toArray_toList]
    split
    · rename_i d _
      cases fx.esc d with
      | true => exact hr
      | false => exact ⟨e, hr⟩
    · exact trivial
  · exact trivial

theorem eff_box (h : Rel c0 G0 H0 B σ G H a c) (s : Sat g a.tmps) {e : TypeId} {x : Operand} (ho : o.op = .box e x) : EffSem cx.P B c (eff cx fx σ g o) ((execOp a.eval o).run cx.P c) := by
  unfold eff
  rw [ho]
  simp only
  split
  · rename_i v hv
    have hr : (execOp a.eval o).run cx.P c = .ok (.value (.pointer (some ⟨c.heap.size, 0, none⟩))) (c.alloc (.cells v.cells.toList.toArray e)) := by
      unfold execOp
      rw [ho]
      simp only [Sem.run_bind, Instr.box, h.rdv s hv, Result.andThen_ok, run_newVar, Sem.run_pure, toArray_toList]
    split
    · rename_i d _
      cases fx.esc d with
      | true => exact hr
      | false => exact ⟨e, hr⟩
    · exact trivial
  · exact trivial

theorem eff_load (h : Rel c0 G0 H0 B σ G H a c) (s : Sat g a.tmps) {t : TypeId} {x : Operand} (ho : o.op = .load t x) : EffSem cx.P B c (eff cx fx σ g o) ((execOp a.eval o).run cx.P c) := by
  have hr : ∀ ad, a.eval x = .pointer (some ad) → (execOp a.eval o).run cx.P c = ((loadVar t ad).run cx.P c).andThen fun v w => .ok (.value v) w := by
    intro ad e
    unfold execOp
    rw [ho]
    simp only [Sem.run_bind, Instr.loadAt, e, Instr.sureAddr, Sem.run_pure, Result.andThen_ok]
  unfold eff
  rw [ho]
  simp only
  split
  · rename_i id off hb
    have ea := h.rdbp s hb
    split
    · rename_i cs hcs
      obtain ⟨ty, h1, _⟩ := h.box id cs hcs
      cases hc : ((off + cx.size t).ble cs.length && Nat.blt 0 (cx.size t) && (cx.P.underlying t).isSome) with
      | false => exact trivial
      | true =>
        simp only [Bool.and_eq_true, Nat.ble_eq, Nat.blt_eq] at hc
        have hl := run_loadVar_cells h1 hc.1.1 hc.1.2 hc.2
        rw [hr _ ea, hl]
        simp only [cond_true]
        split
        · rename_i hag
          refine sem_val (v := .agg ((cs.drop off).take (cx.size t)).toArray) ?_ rfl
          simp [hag]
        · rename_i hag
          split
          · rename_i v hv
            refine sem_val (v := v) ?_ rfl
            simp [hag, List.getD_eq_getElem?_getD, hv]
          · exact trivial
    · exact trivial
  · split
    · rename_i ad had
      have ea := h.rdad s had
      cases hc : ((cx.shp t).size.beq (cx.size t) && Nat.blt 0 (cx.size t) && (cx.P.underlying t).isSome && fits (cx.shp t) (cx.isAgg t)) with
      | false => exact trivial
      | true =>
        simp only [Bool.and_eq_true, Nat.blt_eq] at hc
        intro y hy
        rw [hr _ ea, run_loadVar (Nat.eq_of_beq_eq_true hc.1.1.1) hc.1.1.2 hc.1.2 hc.2 y hy]
        rfl
    · exact trivial

theorem eff_store (h : Rel c0 G0 H0 B σ G H a c) (s : Sat g a.tmps) {t : TypeId} {x y : Operand} (ho : o.op = .store t x y) : EffSem cx.P B c (eff cx fx σ g o) ((execOp a.eval o).run cx.P c) := by
  unfold eff
  rw [ho]
  simp only
  split
  · rename_i v hv
    have ev := h.rdv s hv
    have hr : ∀ ad, a.eval x = .pointer (some ad) → (execOp a.eval o).run cx.P c = ((storeVar t ad v).run cx.P c).andThen fun _ w => .ok .skip w := by
      intro ad e
      unfold execOp
      rw [ho]
      simp only [Sem.run_bind, Instr.storeAt, e, ev, Instr.sureAddr, Sem.run_pure, Result.andThen_ok]
    cases hc : (v.cells.size.beq (cx.size t) && Nat.blt 0 (cx.size t) && v.cells.toList.all Value.oneCell') with
    | false => exact trivial
    | true =>
      simp only [Bool.and_eq_true, Nat.blt_eq] at hc
      simp only [cond_true]
      split
      · rename_i id off hb
        intro cur ty hcur hle
        rw [hr _ (h.rdbp s hb), run_storeVar hcur (Nat.eq_of_beq_eq_true hc.1.1) hc.1.2 hc.2 hle]
        rfl
      · split
        · rename_i ad had
          intro cur ty hcur hsp hle
          have e : ad = ⟨ad.block, ad.off, none⟩ := by cases ad; simp at hsp; rw [hsp]
          rw [hr _ (h.rdad s had), e, run_storeVar hcur (Nat.eq_of_beq_eq_true hc.1.1) hc.1.2 hc.2 hle]
          rfl
        · exact trivial
  · exact trivial

theorem eff_nil (h : Rel c0 G0 H0 B σ G H a c) (s : Sat g a.tmps) {x : Operand} (ho : o.op = .nilCheck x) : EffSem cx.P B c (eff cx fx σ g o) ((execOp a.eval o).run cx.P c) := by
  unfold eff
  rw [ho]
  simp only
  split
  · rename_i id off hb
    refine sem_val (v := .pointer (some ⟨B id, off, none⟩)) ?_ rfl
    unfold execOp
    rw [ho]
    simp only [h.rdbp s hb, Sem.run_pure]
  · rename_i v hv
    split
    · rename_i p
      intro hp
      obtain ⟨ad, rfl⟩ := Option.isSome_iff_exists.1 hp
      refine ⟨_, ?_, rfl⟩
      have := h.rd s x
      rw [hv] at this
      unfold execOp
      rw [ho]
      simp only [show a.eval x = .pointer (some ad) from this, Sem.run_pure, Option.getD_some]
    · exact trivial
  · exact trivial

theorem eff_un (h : Rel c0 G0 H0 B σ G H a c) (s : Sat g a.tmps) {op : UnOp} {t : TypeId} {x : Operand} (ho : o.op = .unOp op t x) : EffSem cx.P B c (eff cx fx σ g o) ((execOp a.eval o).run cx.P c) := by
  unfold eff
  rw [ho]
  simp only
  split
  · rename_i b hb
    split
    · refine sem_val ?_ rfl
      unfold execOp
      rw [ho]
      simp [h.rdv s hb, Op.unary]
    · exact trivial
  · rename_i k n hb
    split
    · refine sem_val ?_ rfl
      unfold execOp
      rw [ho]
      simp [h.rdv s hb, Op.unary, Op.intArith]
    · refine sem_val ?_ rfl
      unfold execOp
      rw [ho]
      simp [h.rdv s hb, Op.unary, Op.intBits, bitsI]
    · exact trivial
  · exact trivial

theorem eff_extract (h : Rel c0 G0 H0 B σ G H a c) (s : Sat g a.tmps) {x : Operand} {i : Nat} (ho : o.op = .extract x i) : EffSem cx.P B c (eff cx fx σ g o) ((execOp a.eval o).run cx.P c) := by
  unfold eff
  rw [ho]
  simp only
  split
  · rename_i vs hv
    split
    · rename_i v hi
      refine sem_val (v := v) ?_ rfl
      unfold execOp
      rw [ho]
      simp only [h.rdv s hv, Instr.extract, hi, Sem.run_bind, Sem.run_pure, Result.andThen_ok]
    · exact trivial
  · exact trivial

theorem eff_fieldAddr (h : Rel c0 G0 H0 B σ G H a c) (s : Sat g a.tmps) {t : TypeId} {x : Operand} {f : Nat} (ho : o.op = .fieldAddr t x f) : EffSem cx.P B c (eff cx fx σ g o) ((execOp a.eval o).run cx.P c) := by
  unfold eff
  rw [ho]
  simp only
  split
  · rename_i fs hu
    have hu' := under_some hu (by simp)
    split
    · rename_i fl hfl
      cases hz : Nat.beq (cx.size fl.type) 0 with
      | true => exact trivial
      | false =>
        have h0 : 0 < cx.size fl.type := by
          rcases Nat.eq_zero_or_pos (cx.size fl.type) with e | e
          · rw [e] at hz; cases hz
          · exact e
        have hr : ∀ ad, a.eval x = .pointer (some ad) → (execOp a.eval o).run cx.P c = .ok (.value (.pointer (some (ad.add fl.offset)))) c := by
          intro ad e
          unfold execOp
          rw [ho]
          simp only [Sem.run_bind, Instr.fieldAt, run_underlying hu', Result.andThen_ok, hfl, Instr.sureAddr, e, Sem.run_pure, fieldPlace, run_size h0]
          rw [if_neg (by omega)]
          rfl
        simp only [cond_false]
        split
        · rename_i id off hb
          refine sem_val (v := .pointer (some ⟨B id, off + fl.offset, none⟩)) ?_ rfl
          rw [hr _ (h.rdbp s hb), addr_add]
        · split
          · rename_i ad had
            exact sem_val (hr _ (h.rdad s had)) rfl
          · exact trivial
    · exact trivial
  · exact trivial

theorem eff_indexAddr (h : Rel c0 G0 H0 B σ G H a c) (s : Sat g a.tmps) {t : TypeId} {x y : Operand} (ho : o.op = .indexAddr t x y) : EffSem cx.P B c (eff cx fx σ g o) ((execOp a.eval o).run cx.P c) := by
  unfold eff
  rw [ho]
  simp only
  split
  · rename_i k j hj
    have ej := h.rdi s hj
    split
    · rename_i e hu
      have hu' := under_some hu (by simp)
      split
      · rename_i z hz
        cases hs : Nat.beq (cx.size e) 0 with
        | true => exact trivial
        | false =>
          have h0 : 0 < cx.size e := by
            rcases Nat.eq_zero_or_pos (cx.size e) with e | e
            · rw [e] at hs; cases hs
            · exact e
          simp only [cond_false]
          rintro ⟨h1, h2, h3⟩
          obtain ⟨ad, had⟩ := Option.isSome_iff_exists.1 h3
          refine ⟨_, ?_, rfl⟩
          unfold execOp
          rw [ho]
          simp only [Sem.run_bind, Instr.indexAt, ej, asIntOf, h.rdsl s hz, run_underlying hu', Sem.run_pure, Result.andThen_ok, had]
          rw [if_pos ⟨h1, h2⟩]
          simp only [Sem.run_bind, run_size h0, Result.andThen_ok, Sem.run_pure, Option.getD_some]
      · exact trivial
    · rename_i n e hu
      have hu' := under_some hu (by simp)
      cases hs : Nat.beq (cx.size e) 0 with
      | true => exact trivial
      | false =>
        have h0 : 0 < cx.size e := by
          rcases Nat.eq_zero_or_pos (cx.size e) with e | e
          · rw [e] at hs; cases hs
          · exact e
        have hr : ∀ ad, a.eval x = .pointer (some ad) → 0 ≤ j ∧ j < (n : Int) → (execOp a.eval o).run cx.P c = .ok (.value (.pointer (some (ad.add (j.toNat * cx.size e))))) c := by
          intro ad e hb
          unfold execOp
          rw [ho]
          simp only [Sem.run_bind, Instr.indexAt, ej, asIntOf, e, run_underlying hu', Sem.run_pure, Result.andThen_ok, Instr.sureAddr]
          rw [if_pos hb]
          simp only [Sem.run_bind, run_size h0, Result.andThen_ok, Sem.run_pure]
        simp only [cond_false]
        split
        · rename_i id off hb
          intro hp
          refine ⟨_, hr _ (h.rdbp s hb) hp, ?_⟩
          rw [addr_add]
          rfl
        · split
          · rename_i ad had
            intro hp
            exact ⟨_, hr _ (h.rdad s had) hp, rfl⟩
          · exact trivial
    · exact trivial
  · exact trivial

theorem eff_index (h : Rel c0 G0 H0 B σ G H a c) (s : Sat g a.tmps) {t : TypeId} {x y : Operand} (ho : o.op = .index t x y) : EffSem cx.P B c (eff cx fx σ g o) ((execOp a.eval o).run cx.P c) := by
  unfold eff
  rw [ho]
  simp only
  split
  · rename_i k j z hj hz
    have ej := h.rdi s hj
    split
    · rename_i hu
      have hu' := under_some hu (by simp)
      rintro ⟨h1, h2⟩
      refine ⟨_, ?_, rfl⟩
      have hlt : j.toNat < z.size := by omega
      have e1 : z[j.toNat]? = some z[j.toNat] := by simp [hlt]
      have e2 : byteAt z j = (z[j.toNat].toNat : Int) := by
        unfold byteAt
        have : z.data.getD j.toNat 0 = z[j.toNat] := by
          rw [Array.getD_eq_getD_getElem?]
          have : z.data[j.toNat]? = some z.data[j.toNat] := Array.getElem?_eq_getElem hlt
          rw [this]
          rfl
        rw [this]
      unfold execOp
      rw [ho]
      simp only [Sem.run_bind, Instr.index, ej, asIntOf, h.rdv s hz, run_underlying hu', Sem.run_pure, Result.andThen_ok]
      rw [if_pos h1, e1]
      simp only [Sem.run_pure, Result.andThen_ok, e2]
    · exact trivial
  · exact trivial
end

end Go.Ev
