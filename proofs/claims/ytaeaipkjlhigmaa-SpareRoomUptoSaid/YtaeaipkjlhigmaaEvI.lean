/- The framework, part I: what an operation's effect does to claims and boxes. -/
import Derived.Test.YtaeaipkjlhigmaaEvH
namespace Go.Ev

theorem inv_below {c c' : World} {G H : Claim} (hg : G.holds c) (hh : H.holds c) (d : G.disj H) (hm : ∀ b o, H b = some o → Obj.mine o = true) (hb : RowKit.Below c.heap.size c c') : Inv c G H c' G H where
  os := hb.os
  tape := hb.tape
  output := hb.output
  size := hb.size
  frame := fun b hlt _ => hb.block b hlt
  mono := Claim.le_refl G
  gholds := fun b o e => by rw [hb.block b (Claim.holds_lt hg (by simp [e]))]; exact hg b o e
  hholds := fun b o e => by rw [hb.block b (Claim.holds_lt hh (by simp [e]))]; exact hh b o e
  disj := d
  gold := fun _ _ h => .inl h
  hold := fun _ _ h => h
  mine := hm

theorem Inv.below {c0 c c' : World} {G0 H0 G H : Claim} (i : Inv c0 G0 H0 c G H) (hb : RowKit.Below c.heap.size c c') : Inv c G H c' G H :=
  inv_below i.gholds i.hholds i.disj i.mine hb

theorem below_alloc (c : World) (o : Obj) : RowKit.Below c.heap.size c (c.alloc o) := (RowKit.Below.refl _ _).alloc (Nat.le_refl _) o

theorem heap_new (c : World) (o : Obj) : (c.alloc o).heap[c.heap.size]? = some o := by
  show (c.heap.push o)[c.heap.size]? = _
  simp

/-- a new block, owned -/
theorem Inv.new {c0 c : World} {G0 H0 G H : Claim} (i : Inv c0 G0 H0 c G H) (o : Obj) (ho : Obj.mine o = true) : Inv c G H (c.alloc o) G (H.upd c.heap.size o) := by
  have hb := below_alloc c o
  have ib := i.below hb
  have hn : H c.heap.size = none := Claim.holds_none i.hholds (Nat.le_refl _)
  have gn : G c.heap.size = none := Claim.holds_none i.gholds (Nat.le_refl _)
  refine ⟨hb.os, hb.tape, hb.output, hb.size, ib.frame, Claim.le_refl G, ib.gholds, ?_, ?_, fun _ _ h => .inl h, ?_, ?_⟩
  · intro b o' e
    by_cases hbn : b = c.heap.size
    · subst hbn
      rw [Claim.upd_same] at e
      simp at e
      subst e
      exact heap_new c o
    · rw [Claim.upd_ne _ _ hbn] at e
      exact ib.hholds b o' e
  · intro b
    by_cases hbn : b = c.heap.size
    · subst hbn; exact .inl gn
    · rw [Claim.upd_ne _ _ hbn]; exact i.disj b
  · intro b hlt hne
    rw [Claim.upd_ne _ _ (by omega)] at hne
    exact hne
  · intro b o' e
    by_cases hbn : b = c.heap.size
    · subst hbn
      rw [Claim.upd_same] at e
      simp at e
      subst e
      exact ho
    · rw [Claim.upd_ne _ _ hbn] at e
      exact i.mine b o' e

/-- a new block, for all time -/
theorem Inv.lit {c0 c : World} {G0 H0 G H : Claim} (i : Inv c0 G0 H0 c G H) (o : Obj) : Inv c G H (c.alloc o) (G.upd c.heap.size o) H := by
  have hb := below_alloc c o
  have ib := i.below hb
  have hn : H c.heap.size = none := Claim.holds_none i.hholds (Nat.le_refl _)
  have gn : G c.heap.size = none := Claim.holds_none i.gholds (Nat.le_refl _)
  refine ⟨hb.os, hb.tape, hb.output, hb.size, ib.frame, ?_, ?_, ib.hholds, ?_, ?_, fun _ _ h => h, i.mine⟩
  · intro b o' e
    rw [Claim.upd_ne _ _ (fun e' => by rw [e', gn] at e; cases e)]
    exact e
  · intro b o' e
    by_cases hbn : b = c.heap.size
    · subst hbn
      rw [Claim.upd_same] at e
      simp at e
      subst e
      exact heap_new c o
    · rw [Claim.upd_ne _ _ hbn] at e
      exact ib.gholds b o' e
  · intro b
    by_cases hbn : b = c.heap.size
    · subst hbn; exact .inr hn
    · rw [Claim.upd_ne _ _ hbn]; exact i.disj b
  · intro b hlt hne
    rw [Claim.upd_ne _ _ (by omega)] at hne
    exact .inl hne

theorem mine_cells {cur : Array Value} {ty : TypeId} : Obj.mine (.cells cur ty (0, 0)) = true := rfl

/-- a store into an owned row -/
theorem Inv.setRow {c0 c : World} {G0 H0 G H : Claim} (i : Inv c0 G0 H0 c G H) {b : Nat} {cur cur' : Array Value} {ty : TypeId} (hb : H b = some (.cells cur ty (0, 0))) :
    Inv c G H (c.setRow b cur') G (H.upd b (.cells cur' ty (0, 0))) := by
  have hc := i.hholds b _ hb
  have gn : G b = none := by
    rcases i.disj b with h | h
    · exact h
    · rw [h] at hb; cases hb
  refine ⟨rfl, rfl, rfl, by simp, ?_, Claim.le_refl G, ?_, ?_, ?_, fun _ _ h => .inl h, ?_, ?_⟩
  · intro b' _ hn
    rw [setRow_other _ _ _ _ (fun e => by rw [e, hb] at hn; cases hn)]
  · intro b' o e
    rw [setRow_other _ _ _ _ (fun e' => by rw [e', gn] at e; cases e)]
    exact i.gholds b' o e
  · intro b' o e
    by_cases hbn : b' = b
    · subst hbn
      rw [Claim.upd_same] at e
      simp at e
      subst e
      exact setRow_heap c b' cur cur' ty (0, 0) hc
    · rw [Claim.upd_ne _ _ hbn] at e
      rw [setRow_other _ _ _ _ hbn]
      exact i.hholds b' o e
  · intro b'
    by_cases hbn : b' = b
    · subst hbn; exact .inl gn
    · rw [Claim.upd_ne _ _ hbn]; exact i.disj b'
  · intro b' _ hne
    by_cases hbn : b' = b
    · subst hbn; simp [hb]
    · rw [Claim.upd_ne _ _ hbn] at hne; exact hne
  · intro b' o e
    by_cases hbn : b' = b
    · subst hbn
      rw [Claim.upd_same] at e
      simp at e
      subst e
      rfl
    · rw [Claim.upd_ne _ _ hbn] at e
      exact i.mine b' o e

/-- an owned object is another one -/
theorem Inv.setObj {c0 c : World} {G0 H0 G H : Claim} (i : Inv c0 G0 H0 c G H) {b : Nat} {ob ob' : Obj} (hb : H b = some ob) (hm : Obj.mine ob' = true) :
    Inv c G H { c with heap := c.heap.setIfInBounds b ob' } G (H.upd b ob') := by
  have hc := i.hholds b _ hb
  have hlt : b < c.heap.size := (Array.getElem?_eq_some_iff.1 hc).1
  have gn : G b = none := by
    rcases i.disj b with h | h
    · exact h
    · rw [h] at hb; cases hb
  have oth : ∀ b', b' ≠ b → ({ c with heap := c.heap.setIfInBounds b ob' } : World).heap[b']? = c.heap[b']? := by
    intro b' hn
    show (c.heap.setIfInBounds b ob')[b']? = _
    rw [Array.getElem?_setIfInBounds_ne (fun e => hn e.symm)]
  have same : ({ c with heap := c.heap.setIfInBounds b ob' } : World).heap[b]? = some ob' := by
    show (c.heap.setIfInBounds b ob')[b]? = _
    rw [Array.getElem?_setIfInBounds_self_of_lt hlt]
  refine ⟨rfl, rfl, rfl, by simp, ?_, Claim.le_refl G, ?_, ?_, ?_, fun _ _ h => .inl h, ?_, ?_⟩
  · intro b' _ hn
    exact oth b' (fun e => by rw [e, hb] at hn; cases hn)
  · intro b' o e
    rw [oth b' (fun e' => by rw [e', gn] at e; cases e)]
    exact i.gholds b' o e
  · intro b' o e
    by_cases hbn : b' = b
    · subst hbn
      rw [Claim.upd_same] at e
      simp at e
      subst e
      exact same
    · rw [Claim.upd_ne _ _ hbn] at e
      rw [oth b' hbn]
      exact i.hholds b' o e
  · intro b'
    by_cases hbn : b' = b
    · subst hbn; exact .inl gn
    · rw [Claim.upd_ne _ _ hbn]; exact i.disj b'
  · intro b' _ hne
    by_cases hbn : b' = b
    · subst hbn; simp [hb]
    · rw [Claim.upd_ne _ _ hbn] at hne; exact hne
  · intro b' o e
    by_cases hbn : b' = b
    · subst hbn
      rw [Claim.upd_same] at e
      simp at e
      subst e
      exact hm
    · rw [Claim.upd_ne _ _ hbn] at e
      exact i.mine b' o e

section
variable {c0 : World} {G0 H0 : Claim} {B : Nat → Nat} {σ : St} {G H : Claim} {a : Act} {c : World}

/-- a store into a box -/
theorem Rel.setbox (h : Rel c0 G0 H0 B σ G H a c) {id : Nat} {cs cs' : List Value} (hb : σ.box id = some cs) :
    Rel c0 G0 H0 B { σ with box := upd σ.box id (some cs') } G H a (c.setRow (B id) cs'.toArray) := by
  obtain ⟨ty, h1, h2, h3, h4⟩ := h.box id cs hb
  have i := h.inv
  refine ⟨⟨i.os, i.tape, i.output, by simpa using i.size, ?_, i.mono, ?_, ?_, i.disj, i.gold, i.hold, i.mine⟩, ⟨h.wf.t, h.wf.gt, ?_⟩, h.size, h.defers, h.t, h.gt, ?_, ?_⟩
  · intro b hlt hn
    rw [setRow_other _ _ _ _ (by omega)]
    exact i.frame b hlt hn
  · intro b o e
    rw [setRow_other _ _ _ _ (fun e' => by rw [e', h2] at e; cases e)]
    exact i.gholds b o e
  · intro b o e
    rw [setRow_other _ _ _ _ (fun e' => by rw [e', h3] at e; cases e)]
    exact i.hholds b o e
  · intro id' hne
    dsimp only at hne ⊢
    by_cases e : id' = id
    · subst e; exact h.wf.box id' (by simp [hb])
    · rw [upd_ne _ _ e] at hne; exact h.wf.box id' hne
  · intro id' cs2 e
    dsimp only at e
    by_cases hid : id' = id
    · subst hid
      rw [upd_same] at e
      simp at e
      subst e
      exact ⟨ty, setRow_heap c _ _ _ ty (0, 0) h1, h2, h3, h4⟩
    · rw [upd_ne _ _ hid] at e
      obtain ⟨ty', k1, k2, k3, k4⟩ := h.box id' cs2 e
      refine ⟨ty', ?_, k2, k3, k4⟩
      rw [setRow_other _ _ _ _ (fun e' => hid (h.inj id' id (by simp [e]) (by simp [hb]) e'))]
      exact k1
  · intro i1 i2 n1 n2 e
    dsimp only at n1 n2
    refine h.inj i1 i2 ?_ ?_ e
    · by_cases hid : i1 = id
      · subst hid; simp [hb]
      · rwa [upd_ne _ _ hid] at n1
    · by_cases hid : i2 = id
      · subst hid; simp [hb]
      · rwa [upd_ne _ _ hid] at n2

/-- a new box -/
theorem Rel.newbox (h : Rel c0 G0 H0 B σ G H a c) (cs : List Value) (ty : TypeId) :
    Rel c0 G0 H0 (upd B σ.next c.heap.size) { σ with box := upd σ.box σ.next (some cs), next := σ.next + 1 } G H a (c.alloc (.cells cs.toArray ty)) := by
  have hb := below_alloc c (.cells cs.toArray ty)
  have i := h.inv
  have ii := i.trans (i.below hb)
  have hv : ∀ x v, (∀ id off, x = AVal.bp id off → id < σ.next) → vrel B x v → vrel (upd B σ.next c.heap.size) x v := by
    intro x v hx hr
    cases x with
    | v y => exact hr
    | junk => exact hr
    | bp id off =>
      have := hx id off rfl
      show v = _
      rw [upd_ne _ _ (by omega)]
      exact hr
  refine ⟨ii, ⟨?_, ?_, ?_⟩, h.size, h.defers, ?_, ?_, ?_, ?_⟩
  · intro i' id off e; exact Nat.lt_succ_of_lt (h.wf.t i' id off e)
  · intro i' id off e; exact Nat.lt_succ_of_lt (h.wf.gt i' id off e)
  · intro id hne
    dsimp only at hne ⊢
    by_cases e : id = σ.next
    · omega
    · rw [upd_ne _ _ e] at hne; exact Nat.lt_succ_of_lt (h.wf.box id hne)
  · intro i'; exact hv _ _ (fun id off e => h.wf.t i' id off e) (h.t i')
  · intro i' hne
    obtain ⟨k1, k2, k3, k4⟩ := h.gt i' hne
    exact ⟨k1, fun hb => hv _ _ (fun id off e => h.wf.gt i' id off e) (k2 hb), k3, k4⟩
  · intro id cs2 e
    dsimp only at e
    by_cases hid : id = σ.next
    · subst hid
      rw [upd_same] at e
      simp at e
      subst e
      rw [upd_same]
      exact ⟨ty, heap_new c _, Claim.holds_none i.gholds (Nat.le_refl _), Claim.holds_none i.hholds (Nat.le_refl _), i.size⟩
    · rw [upd_ne _ _ hid] at e
      rw [upd_ne _ _ hid]
      obtain ⟨ty', k1, k2, k3, k4⟩ := h.box id cs2 e
      refine ⟨ty', ?_, k2, k3, k4⟩
      rw [hb.block _ (Array.getElem?_eq_some_iff.1 k1).1]
      exact k1
  · intro i1 i2 n1 n2 e
    dsimp only at n1 n2
    have key : ∀ j, j ≠ σ.next → upd σ.box σ.next (some cs) j ≠ none → B j < c.heap.size := by
      intro j hj hne
      rw [upd_ne _ _ hj] at hne
      cases hbj : σ.box j with
      | none => exact absurd hbj hne
      | some cs2 =>
        obtain ⟨ty', k1, _⟩ := h.box j cs2 hbj
        exact (Array.getElem?_eq_some_iff.1 k1).1
    by_cases h1 : i1 = σ.next
    · by_cases h2 : i2 = σ.next
      · rw [h1, h2]
      · have := key i2 h2 n2
        rw [h1, upd_same, upd_ne _ _ h2] at e
        omega
    · by_cases h2 : i2 = σ.next
      · have := key i1 h1 n1
        rw [h2, upd_same, upd_ne _ _ h1] at e
        omega
      · rw [upd_ne _ _ h1, upd_ne _ _ h2] at e
        rw [upd_ne _ _ h1] at n1
        rw [upd_ne _ _ h2] at n2
        exact h.inj i1 i2 n1 n2 e
end

/-! ### append -/

theorem run_append_zero {P : Program} {w : World} (t ty e : TypeId) (i : TypeInfo) (ht : P.underlying t = some (.slice e)) (hi : P.info? e = some i) (s : Sl) (xa : Option Addr) (xc : Nat) (h : s.len ≤ s.cap) :
    (Builtin.append_ #[t, t] ty #[.slice s.a s.len s.cap, .slice xa 0 xc]).run P w = .ok (.slice s.a s.len s.cap) w := by
  cases hs : s.a <;> cases xa <;> simp [Builtin.append_, run_underlying ht, sizeOf, typeInfo, hi, Builtin.lenOf, h, Builtin.firstCells, loadCells, loadCellsFrom, storeCells]

theorem append_sound {P : Program} {c0 c : World} {G0 H0 G H : Claim} (inv : Inv c0 G0 H0 c G H) {t oty ty : TypeId} {i : TypeInfo} {z : Value} (ht : P.underlying t = some (.slice ty)) (hi : P.info? ty = some i) (hz : i.zero = some z)
    {size bytes : Nat} (hsize : i.size = size) (hby : i.bytes = bytes) (hzs : z.cells.size = size) (hsz : 0 < size) {s x : Sl} {xs ys : List Value} (hown : Own H ty size s xs) (hl : ys.length = x.len * size)
    (h1 : ∀ v ∈ ys, v.oneCell' = true) (hx : x.len ≠ 0 → ∃ ad, x.a = some ad ∧ (G.and H).at ad ys) (h63 : s.len + x.len ≤ maxLen) (h48 : (s.len + x.len) * bytes ≤ 140737488355328) :
    ∃ (s' : Sl) (H' : Claim) (c' : World), (Builtin.append_ #[t, t] oty #[.slice s.a s.len s.cap, .slice x.a x.len x.cap]).run P c = .ok (.slice s'.a s'.len s'.cap) c' ∧ Inv c G H c' G H' ∧
      Own H' ty size s' (xs ++ ys) ∧ s'.len = s.len + x.len ∧ (∀ b, s'.in b → s.in b ∨ (G b = none ∧ H b = none)) ∧ (∀ b, ¬ s'.in b → ¬ s.in b → H' b = H b) ∧ (∀ b, ¬ s'.in b → s.in b → H' b = none) ∧ ((s.len + x.len ≤ s.cap → s'.a = s.a ∧ s'.cap = s.cap) ∧ (x.len = 0 → s' = s ∧ H' = H)) := by
  classical
  subst hsize
  subst hby
  obtain ⟨hxl, hown⟩ := hown
  have hsmall : s.len + x.len ≤ 9223372036854775807 := by simp only [maxLen] at h63; omega
  by_cases hn : x.len = 0
  · -- nothing is appended
    have hy : ys = [] := List.eq_nil_of_length_eq_zero (by rw [hl, hn]; simp)
    subst hy
    have hle : s.len ≤ s.cap := by
      rcases hown with ⟨h, h'⟩ | ⟨g, cur, _, _, h, _⟩ <;> omega
    refine ⟨s, H, c, by rw [hn]; exact run_append_zero t oty ty i ht hi s x.a x.cap hle, Inv.start inv.gholds inv.hholds inv.disj inv.mine, ⟨by simpa using hxl, by simpa using hown⟩, by omega, fun b hb => .inl hb, fun b _ _ => rfl, fun b h h' => absurd h' h, fun _ => ⟨rfl, rfl⟩, fun _ => ⟨rfl, rfl⟩⟩
  · obtain ⟨ad, had, hat⟩ := hx hn
    have hcells : ∀ j v, ys[j]? = some v → c.cell? (ad.add j) = some v := fun j v hv => Claim.cell_of (Claim.holds_and inv.gholds inv.hholds) (hat j v hv)
    -- a new row
    have grown : ∀ (old : Nat), old < s.len + x.len → ¬ s.len + x.len ≤ s.cap → ∀ (r : Result Value), r = .ok (.slice (some ⟨c.heap.size, 0, none⟩) (s.len + x.len) (grownCap c (s.len + x.len) old ty))
        (c.drew.alloc (.cells (xs.toArray ++ ys.toArray ++ Builtin.zeroCells z.cells (grownCap c (s.len + x.len) old ty - (s.len + x.len))) ty)) →
      ∃ (s' : Sl) (H' : Claim) (c' : World), r = .ok (.slice s'.a s'.len s'.cap) c' ∧ Inv c G H c' G H' ∧
      Own H' ty i.size s' (xs ++ ys) ∧ s'.len = s.len + x.len ∧ (∀ b, s'.in b → s.in b ∨ (G b = none ∧ H b = none)) ∧ (∀ b, ¬ s'.in b → ¬ s.in b → H' b = H b) ∧ (∀ b, ¬ s'.in b → s.in b → H' b = none) ∧ ((s.len + x.len ≤ s.cap → s'.a = s.a ∧ s'.cap = s.cap) ∧ (x.len = 0 → s' = s ∧ H' = H)) := by
      intro old ho hno r hr
      have hge := grownCap_ge c (s.len + x.len) old ty
      have hcm : grownCap c (s.len + x.len) old ty ≤ maxLen := grownCap_le_maxLen c (s.len + x.len) old ty h63
      have hlen : (xs ++ ys).length = (s.len + x.len) * i.size := by rw [List.length_append, hxl, hl, Nat.add_mul]
      generalize hcur : (xs.toArray ++ ys.toArray ++ Builtin.zeroCells z.cells (grownCap c (s.len + x.len) old ty - (s.len + x.len)) : Array Value) = cur at hr
      have hi2 := inv.new (.cells cur ty) rfl
      have hcs : c.heap.size = c.drew.heap.size := rfl
      have hin : ∀ b, (⟨some ⟨c.heap.size, 0, none⟩, s.len + x.len, grownCap c (s.len + x.len) old ty⟩ : Sl).in b ↔ b = c.heap.size := by
        intro b
        constructor
        · rintro ⟨a', e, rfl⟩; simp at e; rw [← e]
        · rintro rfl; exact ⟨_, rfl, rfl⟩
      refine ⟨⟨some ⟨c.heap.size, 0, none⟩, s.len + x.len, grownCap c (s.len + x.len) old ty⟩, fun b => if b = c.heap.size then some (.cells cur ty (0, 0)) else if s.in b then none else H b, _, hr, ?_, ?_, rfl, ?_, ?_, ?_, fun h => absurd h hno, fun h => absurd h hn⟩
      · have hgn : G c.heap.size = none := Claim.holds_none inv.gholds (Nat.le_refl _)
        refine ⟨hi2.os, hi2.tape, hi2.output, hi2.size, hi2.frame, hi2.mono, hi2.gholds, ?_, ?_, hi2.gold, ?_, ?_⟩
        · intro b o e
          dsimp only at e
          split at e
          · rename_i hb; subst hb; simp at e; subst e; exact heap_new c.drew _
          · rename_i hb
            split at e
            · cases e
            · have := hi2.hholds b o (by rw [Claim.upd_ne _ _ hb]; exact e)
              exact this
        · intro b
          dsimp only
          split
          · rename_i hb; subst hb; exact .inl hgn
          · split
            · exact .inr rfl
            · exact inv.disj b
        · intro b hlt hne
          rw [if_neg (by omega)] at hne
          split at hne
          · exact absurd rfl hne
          · exact hne
        · intro b o e
          split at e
          · simp at e; subst e; rfl
          · split at e
            · cases e
            · exact inv.mine b o e
      · refine ⟨hlen, .inr ⟨c.heap.size, cur, rfl, by simp, hge, hcm, ?_, ?_⟩⟩
        · rw [← hcur]
          simp only [Array.size_append, List.size_toArray, size_zeroCells, hzs, hxl, hl, ← Nat.add_mul]
          congr 1
          omega
        · rw [← hcur]
          simp only [Array.toList_append, List.append_assoc]
          rw [← List.append_assoc, ← hlen]
          exact List.take_left
      · intro b hb
        rw [hin] at hb
        subst hb
        exact .inr ⟨Claim.holds_none inv.gholds (Nat.le_refl _), Claim.holds_none inv.hholds (Nat.le_refl _)⟩
      · intro b hb hb'
        rw [hin] at hb
        simp [hb, hb']
      · intro b hb hb'
        rw [hin] at hb
        simp [hb, hb']
    rcases hown with ⟨hs0, hc0⟩ | ⟨g, cur, hsa, hHg, hsc, hcm, hcs, htake⟩
    · have hxs : xs = [] := List.eq_nil_of_length_eq_zero (by rw [hxl, hs0]; simp)
      subst hxs
      rw [hs0] at h48 hsmall
      simp only [Nat.zero_add] at h48 hsmall
      refine grown 0 (by omega) (by omega) _ ?_
      rw [hs0, hc0, had]
      cases hsa : s.a with
      | none =>
        have hr := run_append_nil (P := P) c t oty ty i z ht hi hz ad x.len x.cap ys hl hcells (by omega) (by omega) (by omega)
        simpa using hr
      | some b =>
        have hr := run_append_grow (P := P) c t oty ty i z ht hi hz b 0 0 [] (by simp) (by simp) ad x.len x.cap ys hl hcells (by omega) (by omega) (growslice_fits (by omega) (by simpa using h48))
        simpa using hr
    · have hcg := inv.hholds g _ hHg
      by_cases hroom : s.len + x.len ≤ s.cap
      · have hfit : s.len * i.size + ys.length ≤ cur.size := by rw [hl, hcs, ← Nat.add_mul]; exact Nat.mul_le_mul_right _ hroom
        have hr := run_append_room (P := P) c t oty ty i ht hi g s.len s.cap cur hcg ad x.len x.cap ys hl hcells h1 hroom hfit
        rw [hsa, had]
        have hlen : (xs ++ ys).length = (s.len + x.len) * i.size := by rw [List.length_append, hxl, hl, Nat.add_mul]
        have hin : ∀ b, s.in b ↔ b = g := by
          intro b
          constructor
          · rintro ⟨a', e, rfl⟩; rw [hsa] at e; simp at e; rw [← e]
          · rintro rfl; exact ⟨_, hsa, rfl⟩
        refine ⟨⟨some ⟨g, 0, none⟩, s.len + x.len, s.cap⟩, _, _, hr, inv.setRow hHg, ⟨hlen, .inr ⟨g, _, rfl, Claim.upd_same _ _ _, hroom, hcm, ?_, ?_⟩⟩, rfl, ?_, ?_, ?_, fun _ => ⟨hsa.symm ▸ rfl, rfl⟩, fun h => absurd h hn⟩
        · simp only [List.size_toArray, List.length_append, List.length_take, List.length_drop, Array.length_toList]
          omega
        · rw [htake, ← hlen]
          exact List.take_left
        · rintro b ⟨a', e, rfl⟩
          simp at e
          rw [← e]
          exact .inl ((hin _).2 rfl)
        · intro b _ hb
          rw [hin] at hb
          exact Claim.upd_ne _ _ hb
        · intro b hb hb'
          rw [hin] at hb'
          subst hb'
          exact absurd ⟨_, rfl, rfl⟩ hb
      · have holds : ∀ j u, xs[j]? = some u → c.cell? ((⟨g, 0, none⟩ : Addr).add j) = some u := by
          intro j u hu
          rw [addr_add, Nat.zero_add, cell_of_row c g j cur ty (0, 0) hcg]
          rw [← htake, List.getElem?_take] at hu
          split at hu
          · simpa using hu
          · cases hu
        have hr := run_append_grow (P := P) c t oty ty i z ht hi hz ⟨g, 0, none⟩ s.len s.cap xs hxl holds ad x.len x.cap ys hl hcells (by omega) (by omega) (growslice_fits (by omega) h48)
        refine grown s.cap (by omega) hroom _ ?_
        rw [hsa, had]
        exact hr

end Go.Ev
