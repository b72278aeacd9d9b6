/- The framework, part G: each operation does what its effect says (structs, slices, conversions, calls). -/
import Derived.Test.YtaeaipkjlhigmaaEvF
namespace Go.Ev

theorem run_mapM_list {α β : Type} {P : Program} {w : World} (f : α → Sem β) (k : α → β) : ∀ l : List α, (∀ x ∈ l, (f x).run P w = .ok (k x) w) → (l.mapM f).run P w = .ok (l.map k) w
  | [], _ => by simp
  | x :: l, h => by
    simp only [List.mapM_cons, Sem.run_bind, h x (by simp), Result.andThen_ok, run_mapM_list f k l (fun y hy => h y (by simp [hy])), Sem.run_pure, List.map_cons]

theorem run_mapM {α β : Type} {P : Program} {w : World} (f : α → Sem β) (k : α → β) (l : Array α) (h : ∀ x ∈ l.toList, (f x).run P w = .ok (k x) w) : (l.mapM f).run P w = .ok (l.map k) w := by
  rw [Array.mapM_eq_mapM_toList]
  simp only [Sem.run_map, run_mapM_list f k _ h, Result.andThen_ok]
  rw [← Array.toList_map]

section
variable {cx : Cx} {fx : Fx} {c0 : World} {G0 H0 : Claim} {B : Nat → Nat} {σ : St} {G H : Claim} {a : Act} {c : World} {g : List (Nat × Bool)} {o : Oper}

theorem eff_build (h : Rel c0 G0 H0 B σ G H a c) (s : Sat g a.tmps) {t : TypeId} {parts : Array (Nat × Operand)} (ho : o.op = .build t parts) : EffSem cx.P B c (eff cx fx σ g o) ((execOp a.eval o).run cx.P c) := by
  unfold eff
  rw [ho]
  simp only
  split
  · rename_i z ps hz hps
    have eps := parts?_eq h s _ _ hps
    split
    · rename_i fs hu
      have hu' := under_some hu (by simp)
      cases hall : (fs.toList.all fun f => Nat.blt 0 (cx.size f.type)) with
      | false => exact trivial
      | true =>
        simp only [cond_true]
        split
        · rename_i cs hcs
          refine sem_val (v := .agg cs.toArray) ?_ rfl
          have hm : (fs.mapM fun f => (do pure (f.offset, ← sizeOf f.type) : Sem (Nat × Nat))).run cx.P c = .ok (fs.map fun f => (f.offset, cx.size f.type)) c := by
            refine run_mapM _ _ _ (fun f hf => ?_)
            have := List.all_eq_true.1 hall f hf
            rw [Nat.blt_eq] at this
            simp only [Sem.run_bind, run_size this, Result.andThen_ok, Sem.run_pure]
          have hf := fill_eq (place := ((fs.map fun f => (f.offset, cx.size f.type))[·]?)) (places := fs.toList.map fun f => (f.offset, cx.size f.type)) (fun i x hx => by
            have : (fs.map fun f => (f.offset, cx.size f.type)).toList = fs.toList.map fun f => (f.offset, cx.size f.type) := by simp
            rw [← this] at hx
            simpa using hx) ps _ _ hcs
          rw [toArray_toList] at hf
          unfold execOp
          rw [ho]
          simp only [Sem.run_bind, Instr.build, run_zeroValue hz, Result.andThen_ok, run_underlying hu', hm]
          have e : (parts.map fun x => (x.1, a.eval x.2)).toList = ps := by simpa using eps
          rw [e, hf]
          simp only [Sem.run_pure, Result.andThen_ok]
        · exact trivial
    · exact trivial
  · exact trivial

theorem eff_buildSlice (h : Rel c0 G0 H0 B σ G H a c) (s : Sat g a.tmps) {t : TypeId} {len : Nat} {parts : Array (Nat × Operand)} (ho : o.op = .buildSlice t len parts) : EffSem cx.P B c (eff cx fx σ g o) ((execOp a.eval o).run cx.P c) := by
  unfold eff
  rw [ho]
  simp only
  split
  · rename_i e ps hu hps
    have eps := parts?_eq h s _ _ hps
    have hu' := under_some hu (by simp)
    split
    · rename_i z hz
      cases hc : ((len * cx.size e).ble 16777216 && z.cells.size.beq (cx.size e) && Nat.blt 0 (cx.size e)) with
      | false => exact trivial
      | true =>
        simp only [Bool.and_eq_true, Nat.ble_eq, Nat.blt_eq] at hc
        obtain ⟨⟨h1, h2⟩, h3⟩ := hc
        have h2' := Nat.eq_of_beq_eq_true h2
        simp only [cond_true]
        split
        · rename_i cs hcs
          have hf := fill_eq (place := fun i => some (i * cx.size e, cx.size e)) (fun i x hx => by
            rw [List.getElem?_map] at hx
            cases hr : (List.range len)[i]? with
            | none => rw [hr] at hx; cases hx
            | some j =>
              rw [hr] at hx
              have hj : j = i := by
                by_cases hi : i < len
                · rw [List.getElem?_range hi] at hr; simp at hr; exact hr.symm
                · rw [List.getElem?_eq_none (by simp; omega)] at hr; cases hr
              subst hj
              simpa using hx) ps _ _ hcs
          show (execOp a.eval o).run cx.P c = _
          unfold execOp
          rw [ho]
          simp only [Sem.run_bind, Instr.buildSlice, run_underlying hu', Result.andThen_ok, run_size h3]
          rw [if_neg (by omega)]
          have ez' : (Array.range (len * cx.size e)).map (fun i => (if len * cx.size e = 0 then #[] else z.cells)[i % (if len * cx.size e = 0 then #[] else z.cells).size]!) = (repeatL z.cells.toList len).toArray := by
            rw [← h2']
            have := range_repeat z.cells len (by omega)
            rw [← this]
            by_cases hn : len * z.cells.size = 0
            · simp [hn]
            · simp [hn]
          have e1 : (parts.map fun x => (x.1, a.eval x.2)).toList = ps := by simpa using eps
          by_cases hn : len * cx.size e = 0
          · rw [if_pos hn] at ez' ⊢
            simp only [Sem.run_bind, Sem.run_pure, Result.andThen_ok, ez', e1, hf]
            simp [newRow]
          · rw [if_neg hn] at ez' ⊢
            simp only [Sem.run_bind, run_zeroValue hz, Sem.run_pure, Result.andThen_ok, ez', e1, hf]
            simp [newRow]
        · exact trivial
    · exact trivial
  · exact trivial

theorem eff_makeFunc (h : Rel c0 G0 H0 B σ G H a c) (s : Sat g a.tmps) {fn : Fn} {x y : Array Operand} (ho : o.op = .makeFunc fn x y) : EffSem cx.P B c (eff cx fx σ g o) ((execOp a.eval o).run cx.P c) := by
  unfold eff
  rw [ho]
  simp only
  split
  · rename_i p q hp hq
    refine sem_val (v := .func fn p.toArray q.toArray) ?_ rfl
    have e1 := vals?_eq h s _ _ hp
    have e2 := vals?_eq h s _ _ hq
    unfold execOp
    rw [ho]
    simp only [Instr.makeFunc, Sem.run_bind, Sem.run_pure, Result.andThen_ok]
    have f1 : x.map a.eval = p.toArray := by rw [← e1, ← Array.toList_map]
    have f2 : y.map a.eval = q.toArray := by rw [← e2, ← Array.toList_map]
    rw [f1, f2]
  · exact trivial

theorem eff_makeSlice (h : Rel c0 G0 H0 B σ G H a c) (s : Sat g a.tmps) {t : TypeId} {x y : Operand} (ho : o.op = .makeSlice t x y) : EffSem cx.P B c (eff cx fx σ g o) ((execOp a.eval o).run cx.P c) := by
  unfold eff
  rw [ho]
  simp only
  split
  · rename_i e l m hu hl hm
    have hu' := under_some hu (by simp)
    split
    · rename_i z hz
      obtain ⟨i, hi, hiz⟩ := zero_some hz
      cases hc : (z.cells.size.beq (cx.size e) && Nat.blt 0 (cx.size e)) with
      | false => exact trivial
      | true =>
        simp only [Bool.and_eq_true, Nat.blt_eq] at hc
        obtain ⟨h2, h3⟩ := hc
        have h2' := Nat.eq_of_beq_eq_true h2
        simp only [cond_true]
        rintro ⟨p1, p2, p3, p4⟩
        have hb : cx.P.bytesOf e = i.bytes := by simp [Program.bytesOf, hi]
        have hs : cx.size e = i.size := by simp [Cx.size, Program.cellsOf, hi]
        have := run_make (P := cx.P) c t e i z hu' hi hiz .i64 .i64 l m p1 p2 (by rw [← hb, Int.mul_comm]; omega) (by omega)
        unfold execOp
        rw [ho]
        simp only [Sem.run_bind, h.rdi s hl, h.rdi s hm, this, Result.andThen_ok, Sem.run_pure]
        unfold madeCells
        rw [← hs, ← h2', range_repeat z.cells m.toNat (by omega)]
    · exact trivial
  · exact trivial

theorem eff_field (h : Rel c0 G0 H0 B σ G H a c) (s : Sat g a.tmps) {t : TypeId} {x : Operand} {f : Nat} (ho : o.op = .field t x f) : EffSem cx.P B c (eff cx fx σ g o) ((execOp a.eval o).run cx.P c) := by
  unfold eff
  rw [ho]
  simp only
  split
  · rename_i fs hu
    have hu' := under_some hu (by simp)
    split
    · rename_i fl cs hfl hv
      cases hc : ((fl.offset + cx.size fl.type).ble cs.size && Nat.blt 0 (cx.size fl.type) && (cx.P.underlying fl.type).isSome) with
      | false => exact trivial
      | true =>
        simp only [Bool.and_eq_true, Nat.ble_eq, Nat.blt_eq] at hc
        obtain ⟨⟨h1, h2⟩, h3⟩ := hc
        have hr : (execOp a.eval o).run cx.P c = ((part fl.type cs fl.offset).run cx.P c).andThen fun v w => .ok (.value v) w := by
          unfold execOp
          rw [ho]
          simp only [Sem.run_bind, Instr.field, run_underlying hu', Result.andThen_ok, hfl, h.rdv s hv, asAgg, Sem.run_pure]
        rw [hr]
        unfold part
        simp only [Sem.run_bind, run_isAgg h3, Result.andThen_ok, cond_true]
        split
        · rename_i hag
          refine sem_val (v := .agg ((cs.toList.drop fl.offset).take (cx.size fl.type)).toArray) ?_ rfl
          rw [hag]
          simp only [if_true, Sem.run_bind, run_size h2, Result.andThen_ok, Sem.run_pure]
          congr 3
          apply Array.toList_inj.1
          simp [Array.toList_extract, List.extract_eq_take_drop]
        · rename_i hag
          split
          · rename_i v hcv
            refine sem_val (v := v) ?_ rfl
            rw [hag]
            have : cs[fl.offset]? = some v := by simpa using hcv
            simp [this]
          · exact trivial
    · exact trivial
  · exact trivial

theorem foldl_push (l : List UInt8) (r : ByteArray) : (l.map fun b => (b.toNat : Int)).foldl (fun r n => r.push (UInt8.ofNat n.toNat)) r = ⟨r.data ++ l.toArray⟩ := by
  induction l generalizing r with
  | nil => cases r; simp
  | cons x l ih =>
    simp only [List.map_cons, List.foldl_cons]
    rw [ih]
    cases r
    simp [ByteArray.push]

theorem eff_convert (h : Rel c0 G0 H0 B σ G H a c) (s : Sat g a.tmps) {t u : TypeId} {x : Operand} (ho : o.op = .convert t u x) : EffSem cx.P B c (eff cx fx σ g o) ((execOp a.eval o).run cx.P c) := by
  have hr : ∀ v, a.eval x = v → (execOp a.eval o).run cx.P c = ((convert t u v).run cx.P c).andThen fun v w => .ok (.value v) w := by
    intro v e
    unfold execOp
    rw [ho]
    simp only [Sem.run_bind, e, Sem.run_pure]
  unfold eff
  rw [ho]
  simp only
  split
  · rename_i k n hv
    split
    · rename_i d k' hs hu
      have hu' := under_some hu (by simp)
      refine sem_val ?_ rfl
      rw [hr _ (h.rdv s hv)]
      unfold convert
      simp only [Sem.run_bind, run_underlying hs, run_underlying hu', Result.andThen_ok, Conv.intToInt, Sem.run_pure]
    · exact trivial
  · rename_i z hv
    split
    · rename_i d hs hu
      have hu' := under_some hu (by simp)
      refine sem_val (v := .string z) ?_ rfl
      rw [hr _ (h.rdv s hv)]
      unfold convert
      simp only [Sem.run_bind, run_underlying hs, run_underlying hu', Result.andThen_ok, Sem.run_pure]
    · exact trivial
  · rename_i p n m hv
    split
    · rename_i e hs hu
      have hs' := under_some hs (by simp)
      have hu' := under_some hu (by simp)
      split
      · rename_i he
        have he' := under_some he (by simp)
        intro z hz hcells
        rw [hr _ (h.rdv s hv)]
        unfold convert
        simp only [Sem.run_bind, run_underlying hs', run_underlying hu', Result.andThen_ok, run_underlying he']
        cases p with
        | none =>
          have hn : n = 0 := by
            rcases Nat.eq_zero_or_pos n with e | e
            · exact e
            · obtain ⟨a', h1, _⟩ := hcells (by omega); cases h1
          have hz0 : z = ByteArray.empty := by
            apply ByteArray.ext
            apply Array.eq_empty_of_size_eq_zero
            have : z.data.size = z.size := rfl
            omega
          simp [Conv.bytesToString, hz0]
        | some ad =>
          have hl : (loadCells ad n).run cx.P c = .ok ((z.data.toList.map fun b => (b.toNat : Int)).map (Value.int .u8)).toArray c := by
            have hlen : (z.data.toList.map fun b => Value.int .u8 (b.toNat : Int)).length = n := by simp; exact hz
            have := run_loadCells_list (P := cx.P) c ad (z.data.toList.map fun b => Value.int .u8 (b.toNat : Int)) (by
              intro j v hj
              rcases Nat.eq_zero_or_pos n with e | e
              · rw [e] at hlen
                rw [List.eq_nil_of_length_eq_zero hlen] at hj
                simp at hj
              · obtain ⟨a', h1, h2⟩ := hcells (by omega)
                simp at h1
                subst h1
                exact h2 j v hj)
            rw [hlen] at this
            rw [this]
            simp
          rw [run_bytesToString c ad n m _ hl]
          simp only [Result.andThen_ok]
          congr 3
          rw [foldl_push]
          cases z
          simp [ByteArray.empty, ByteArray.emptyWithCapacity]
          rfl
      · exact trivial
    · exact trivial
  · exact trivial

end

end Go.Ev
