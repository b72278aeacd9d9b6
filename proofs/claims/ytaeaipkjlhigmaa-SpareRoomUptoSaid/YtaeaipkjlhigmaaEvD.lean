/- The framework, part D: each operation does what its effect says. -/
import Derived.Test.YtaeaipkjlhigmaaEvC
namespace Go.Ev

def EffSem (P : Program) (B : Nat → Nat) (c : World) : Eff → Result Next → Prop
  | .val x, r => ∃ v, r = .ok (.value v) c ∧ vrel B x v
  | .must p x, r => p → ∃ v, r = .ok (.value v) c ∧ vrel B x v
  | .dcall f args _, r => r = .ok (.enter f args.toArray) c
  | .call f args _, r => r = .ok (.enter f args.toArray) c
  | .load sh ad, r => ∀ x : sh.den, (∀ i v, (sh.flat x)[i]? = some v → c.cell? (ad.add i) = some v) → r = .ok (.value (sh.enc x)) c
  | .loadStr a n, r => ∀ s : ByteArray, s.size = n → (n ≠ 0 → ∃ a', a = some a' ∧ ∀ i v, (s.data.toList.map fun b => Value.int .u8 b.toNat)[i]? = some v → c.cell? (a'.add i) = some v) → r = .ok (.value (.string s)) c
  | .store ad vs, r => ∀ cur ty, c.heap[ad.block]? = some (.cells cur ty (0, 0)) → ad.spot = none → ad.off + vs.length ≤ cur.size →
      r = .ok .skip (c.setRow ad.block (cur.toList.take ad.off ++ vs ++ cur.toList.drop (ad.off + vs.length)).toArray)
  | .setbox id off vs, r => ∀ cur ty, c.heap[B id]? = some (.cells cur ty (0, 0)) → off + vs.length ≤ cur.size →
      r = .ok .skip (c.setRow (B id) (cur.toList.take off ++ vs ++ cur.toList.drop (off + vs.length)).toArray)
  | .newbox cs, r => ∃ ty, r = .ok (.value (.pointer (some ⟨c.heap.size, 0, none⟩))) (c.alloc (.cells cs.toArray ty))
  | .new cs ty, r => r = .ok (.value (.pointer (some ⟨c.heap.size, 0, none⟩))) (c.alloc (.cells cs.toArray ty))
  | .mk p cs ty len cap, r => p → r = .ok (.value (.slice (some ⟨c.heap.size, 0, none⟩) len cap)) (c.alloc (.cells cs.toArray ty))
  | .lit cs ty len, r => r = .ok (.value (.slice (some ⟨c.heap.size, 0, none⟩) len len)) (c.alloc (.cells cs.toArray ty))
  | .append ty size bytes s x, r => ∃ t oty i z, P.underlying t = some (.slice ty) ∧ P.info? ty = some i ∧ i.zero = some z ∧ i.size = size ∧ i.bytes = bytes ∧ z.cells.size = size ∧ 0 < size ∧
      r = ((Builtin.append_ #[t, t] oty #[.slice s.a s.len s.cap, .slice x.a x.len x.cap]).run P c).andThen fun v w => .ok (.value v) w
  | .mkObj o, r => r = .ok (.value (.chan (some c.heap.size))) (c.alloc o) ∧ Obj.mine o = true
  | .trySend x v, r => ∃ z, r = .ok (.comm #[{ chan := .chan x, send := some v, zero := z }] false .select) c
  | .recv x, r => ∃ z, r = .ok (.comm #[{ chan := .chan x, send := none, zero := z }] true (.recv false)) c
  | .clear x n vs, r => (n = 0 → r = .ok (.value (.tuple #[])) c) ∧ (n ≠ 0 → ∀ ad cur ty, x = some ad → c.heap[ad.block]? = some (.cells cur ty (0, 0)) → ad.spot = none → ad.off + vs.length ≤ cur.size →
      r = .ok (.value (.tuple #[])) (c.setRow ad.block (cur.toList.take ad.off ++ vs ++ cur.toList.drop (ad.off + vs.length)).toArray))
  | .bad, _ => True

/-! ### small facts -/

theorem addr_add (b o k : Nat) : (⟨b, o, none⟩ : Addr).add k = ⟨b, o + k, none⟩ := by unfold Addr.add; split <;> simp_all

theorem under_some {cx : Cx} {t : TypeId} {d : TypeDesc} (h : cx.under t = d) (hd : d ≠ .invalid) : cx.P.underlying t = some d := by
  unfold Cx.under at h
  cases e : cx.P.underlying t with
  | none => rw [e] at h; exact absurd h.symm hd
  | some d' => rw [e] at h; simp at h; rw [h]

theorem size_pos {cx : Cx} {t : TypeId} (h : 0 < cx.size t) : ∃ i, cx.P.info? t = some i ∧ i.size = cx.size t := by
  unfold Cx.size Program.cellsOf at h ⊢
  cases e : cx.P.info? t with
  | none => rw [e] at h; simp at h
  | some i => exact ⟨i, rfl, by simp⟩

theorem run_sizeOf {P : Program} {t : TypeId} {i : TypeInfo} (h : P.info? t = some i) (w : World) : (sizeOf t).run P w = .ok i.size w := by
  simp [sizeOf, typeInfo, h]

theorem run_size {cx : Cx} {t : TypeId} (h : 0 < cx.size t) (w : World) : (sizeOf t).run cx.P w = .ok (cx.size t) w := by
  obtain ⟨i, hi, hs⟩ := size_pos h
  rw [run_sizeOf hi, hs]

theorem run_isAgg {cx : Cx} {t : TypeId} (h : (cx.P.underlying t).isSome = true) (w : World) : (isAgg t).run cx.P w = .ok (cx.isAgg t) w := by
  obtain ⟨d, hd⟩ := Option.isSome_iff_exists.1 h
  unfold isAgg
  simp only [Sem.run_bind, run_underlying hd, Result.andThen_ok]
  unfold Cx.isAgg Cx.under
  rw [hd]
  simp only [Option.getD_some]
  cases d <;> rfl

theorem zero_some {cx : Cx} {t : TypeId} {z : Value} (h : cx.zero t = some z) : ∃ i, cx.P.info? t = some i ∧ i.zero = some z := by
  unfold Cx.zero at h
  cases e : cx.P.info? t with
  | none => rw [e] at h; cases h
  | some i => rw [e] at h; exact ⟨i, rfl, h⟩

theorem run_zeroValue {cx : Cx} {t : TypeId} {z : Value} (h : cx.zero t = some z) (w : World) : (zeroValue t).run cx.P w = .ok z w := by
  obtain ⟨i, hi, hz⟩ := zero_some h
  simp [zeroValue, typeInfo, hi, hz]

theorem leaf_flat {s : Sh} (h : fits s false = true) (x : s.den) : s.flat x = [s.enc x] := by
  cases s <;> first | rfl | (simp [fits] at h)

theorem fits_agg {s : Sh} (h : fits s true = true) : ∃ s', s = .agg s' := by
  cases s <;> simp [fits] at h
  exact ⟨_, rfl⟩

/-- reading a variable, by its shape -/
theorem run_loadVar {cx : Cx} {t : TypeId} {sh : Sh} (hs : sh.size = cx.size t) (h0 : 0 < cx.size t) (hu : (cx.P.underlying t).isSome = true) (hf : fits sh (cx.isAgg t) = true)
    {a : Addr} {w : World} (x : sh.den) (hx : ∀ i v, (sh.flat x)[i]? = some v → w.cell? (a.add i) = some v) : (loadVar t a).run cx.P w = .ok (sh.enc x) w := by
  unfold loadVar
  simp only [Sem.run_bind, run_isAgg hu, Result.andThen_ok]
  cases ha : cx.isAgg t with
  | true =>
    rw [ha] at hf
    obtain ⟨s', rfl⟩ := fits_agg hf
    simp only [if_true, Sem.run_bind, run_size h0, Result.andThen_ok]
    have hl := Sh.flat_length _ x
    rw [hs] at hl
    have := run_loadCells_list (P := cx.P) w a _ hx
    rw [hl] at this
    rw [this]
    rfl
  | false =>
    rw [ha] at hf
    have hfl := leaf_flat hf x
    have := hx 0 (sh.enc x) (by rw [hfl]; rfl)
    have e : a.add 0 = a := by simp [Addr.add]
    rw [e] at this
    simp [this]

/-- reading a part of a row of cells that is known -/
theorem run_loadVar_cells {cx : Cx} {t : TypeId} {b off : Nat} {cs : List Value} {ty : TypeId} {w : World} (hb : w.heap[b]? = some (.cells cs.toArray ty (0, 0)))
    (hle : off + cx.size t ≤ cs.length) (h0 : 0 < cx.size t) (hu : (cx.P.underlying t).isSome = true) :
    (loadVar t ⟨b, off, none⟩).run cx.P w = match cx.isAgg t with
      | true => .ok (.agg ((cs.drop off).take (cx.size t)).toArray) w
      | false => .ok (cs.getD off undef) w := by
  unfold loadVar
  simp only [Sem.run_bind, run_isAgg hu, Result.andThen_ok]
  cases ha : cx.isAgg t with
  | true =>
    simp only [if_true, Sem.run_bind, run_size h0, Result.andThen_ok]
    have hl : ((cs.drop off).take (cx.size t)).length = cx.size t := by simp; omega
    have := run_loadCells_list (P := cx.P) w ⟨b, off, none⟩ ((cs.drop off).take (cx.size t)) (fun j v hv => by
      rw [addr_add, cell_of_row w b (off + j) cs.toArray ty (0, 0) hb]
      rw [List.getElem?_take] at hv
      split at hv
      · rw [List.getElem?_drop] at hv; simpa using hv
      · cases hv)
    rw [hl] at this
    rw [this]
    rfl
  | false =>
    have : w.cell? ⟨b, off, none⟩ = some (cs.getD off undef) := by
      rw [cell_of_row w b off cs.toArray ty (0, 0) hb]
      simp only [List.getElem?_toArray]
      rw [List.getD_eq_getElem?_getD, List.getElem?_eq_getElem (by omega)]
      rfl
    simp [this]

theorem run_storeVar {cx : Cx} {t : TypeId} {b off : Nat} {cur : Array Value} {ty : TypeId} {w : World} {v : Value} (hb : w.heap[b]? = some (.cells cur ty (0, 0)))
    (hs : v.cells.size = cx.size t) (h0 : 0 < cx.size t) (h1 : v.cells.toList.all Value.oneCell' = true) (hle : off + v.cells.toList.length ≤ cur.size) :
    (storeVar t ⟨b, off, none⟩ v).run cx.P w = .ok () (w.setRow b (cur.toList.take off ++ v.cells.toList ++ cur.toList.drop (off + v.cells.toList.length)).toArray) := by
  unfold storeVar
  simp only [Sem.run_bind, run_size h0, Result.andThen_ok]
  rw [if_neg (by simp [hs])]
  have := run_storeCells_at cx.P b off ty v.cells.toList 0 cur w hb (by simpa using hle) (fun x hx => List.all_eq_true.1 h1 x hx)
  simpa using this

/-! ### filling -/

theorem foldl_zip_set (v : List Value) : ∀ (off k : Nat) (cs : Array Value), off + k + v.length ≤ cs.size →
    ((v.zipIdx k).foldl (fun (cs : Array Value) (x : Value × Nat) => cs.setIfInBounds (off + x.2) x.1) cs).toList = cs.toList.take (off + k) ++ v ++ cs.toList.drop (off + k + v.length) := by
  induction v with
  | nil => intro off k cs _; simp
  | cons x v ih =>
    intro off k cs h
    simp only [List.zipIdx_cons, List.foldl_cons]
    simp only [List.length_cons] at h
    rw [ih off (k + 1) _ (by simp; omega)]
    simp only [Array.toList_setIfInBounds, List.length_cons]
    have hlt : off + k < cs.toList.length := by simp; omega
    rw [List.take_set, show off + (k + 1) = off + k + 1 by omega, List.take_succ_eq_append_getElem hlt, List.set_append, List.drop_set]
    have hl : (List.take (off + k) cs.toList).length = off + k := by simp; omega
    rw [if_neg (by omega), hl, Nat.sub_self]
    rw [if_pos (by omega)]
    simp [Nat.add_assoc, Nat.add_comm 1]

theorem fill_eq {place : Nat → Option (Nat × Nat)} {places : List (Nat × Nat)} (hp : ∀ i x, places[i]? = some x → place i = some x) :
    ∀ (ps : List (Nat × Value)) (cells : List Value) (cs : List Value), fillCells places cells ps = some cs → Instr.fill place cells.toArray ps = some cs.toArray := by
  intro ps
  induction ps with
  | nil => intro cells cs h; simp [fillCells] at h; simp [Instr.fill, h]
  | cons p ps ih =>
    obtain ⟨i, v⟩ := p
    intro cells cs h
    simp only [fillCells] at h
    split at h
    · rename_i off size hpl
      cases hc : (v.cells.size.beq size && (off + v.cells.size).ble cells.length) with
      | false => rw [hc] at h; cases h
      | true =>
        rw [hc] at h
        simp only [cond_true] at h
        simp only [Bool.and_eq_true, Nat.ble_eq] at hc
        have hc1 := Nat.eq_of_beq_eq_true hc.1
        have hc2 := hc.2
        unfold Instr.fill
        rw [hp _ _ hpl]
        simp only
        rw [if_neg (by simp only [List.size_toArray]; simp; omega)]
        rw [← ih _ _ h]
        congr 1
        apply Array.toList_inj.1
        have := foldl_zip_set v.cells.toList off 0 cells.toArray (by simp; omega)
        simp only [Nat.add_zero] at this
        rw [← Array.foldl_toList, Array.toList_zipIdx]
        rw [this]
        simp [splice]
    · cases h

end Go.Ev
