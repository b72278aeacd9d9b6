/- The framework, part A: claims on memory, shapes of values, small trees ('T') that stand for the code of a function, and what it means that a tree is fine ('T.wp'). -/
import Derived.WalkKit
namespace Go.Ev

/-! ## shapes -/

inductive Sh where
  | unit | int (k : IntKind) | bool | str | slice | ptr | chan
  | pair (a b : Sh) | agg (s : Sh) | tup (s : Sh)
  deriving DecidableEq

structure Sl where
  a : Option Addr
  len : Nat
  cap : Nat

def Sh.den : Sh → Type
  | .unit => Unit
  | .int _ => Int
  | .bool => Bool
  | .str => ByteArray
  | .slice => Sl
  | .ptr => Option Addr
  | .chan => Option Nat
  | .pair a b => a.den × b.den
  | .agg s => s.den
  | .tup s => s.den

/-- the cells, one behind the other -/
def Sh.flat : (s : Sh) → s.den → List Value
  | .unit, _ => []
  | .int k, n => [.int k n]
  | .bool, b => [.bool b]
  | .str, s => [.string s]
  | .slice, s => [.slice s.a s.len s.cap]
  | .ptr, p => [.pointer p]
  | .chan, c => [.chan c]
  | .pair a b, x => a.flat x.1 ++ b.flat x.2
  | .agg s, x => s.flat x
  | .tup s, x => s.flat x

/-- the components, a struct as one -/
def Sh.vals : (s : Sh) → s.den → List Value
  | .unit, _ => []
  | .int k, n => [.int k n]
  | .bool, b => [.bool b]
  | .str, s => [.string s]
  | .slice, s => [.slice s.a s.len s.cap]
  | .ptr, p => [.pointer p]
  | .chan, c => [.chan c]
  | .pair a b, x => a.vals x.1 ++ b.vals x.2
  | .agg s, x => [.agg (s.flat x).toArray]
  | .tup s, x => s.vals x

def Sh.enc : (s : Sh) → s.den → Value
  | .unit, _ => .tuple #[]
  | .int k, n => .int k n
  | .bool, b => .bool b
  | .str, s => .string s
  | .slice, s => .slice s.a s.len s.cap
  | .ptr, p => .pointer p
  | .chan, c => .chan c
  | .pair _ _, _ => .tuple #[]
  | .agg s, x => .agg (s.flat x).toArray
  | .tup s, x => .tuple (s.vals x).toArray

def Sh.size : Sh → Nat
  | .unit => 0
  | .pair a b => a.size + b.size
  | .agg s => s.size
  | .tup s => s.size
  | _ => 1

theorem Sh.flat_length : (s : Sh) → (x : s.den) → (s.flat x).length = s.size
  | .unit, _ => rfl
  | .int _, _ => rfl
  | .bool, _ => rfl
  | .str, _ => rfl
  | .slice, _ => rfl
  | .ptr, _ => rfl
  | .chan, _ => rfl
  | .pair a b, x => by simp [Sh.flat, Sh.size, Sh.flat_length a, Sh.flat_length b]
  | .agg s, x => Sh.flat_length s x
  | .tup s, x => Sh.flat_length s x

theorem Sh.flat_one : (s : Sh) → (x : s.den) → ∀ v ∈ s.flat x, v.oneCell' = true
  | .unit, _ => by simp [Sh.flat]
  | .int _, _ => by simp [Sh.flat, Value.oneCell']
  | .bool, _ => by simp [Sh.flat, Value.oneCell']
  | .str, _ => by simp [Sh.flat, Value.oneCell']
  | .slice, _ => by simp [Sh.flat, Value.oneCell']
  | .ptr, _ => by simp [Sh.flat, Value.oneCell']
  | .chan, _ => by simp [Sh.flat, Value.oneCell']
  | .pair a b, x => by
    intro v hv
    simp only [Sh.flat, List.mem_append] at hv
    exact hv.elim (Sh.flat_one a x.1 v) (Sh.flat_one b x.2 v)
  | .agg s, x => Sh.flat_one s x
  | .tup s, x => Sh.flat_one s x

def popI (k : IntKind) : List Value → Option (Int × List Value)
  | v :: l => match v with
    | .int k' n => if k = k' then some (n, l) else none
    | _ => none
  | [] => none
def popB : List Value → Option (Bool × List Value)
  | v :: l => match v with
    | .bool b => some (b, l)
    | _ => none
  | [] => none
def popS : List Value → Option (ByteArray × List Value)
  | v :: l => match v with
    | .string b => some (b, l)
    | _ => none
  | [] => none
def popL : List Value → Option (Sl × List Value)
  | v :: l => match v with
    | .slice a n c => some (⟨a, n, c⟩, l)
    | _ => none
  | [] => none
def popP : List Value → Option (Option Addr × List Value)
  | v :: l => match v with
    | .pointer p => some (p, l)
    | _ => none
  | [] => none
def popC : List Value → Option (Option Nat × List Value)
  | v :: l => match v with
    | .chan p => some (p, l)
    | _ => none
  | [] => none

/-- reads a shape off a row of cells -/
def Sh.deFlat : (s : Sh) → List Value → Option (s.den × List Value)
  | .unit, l => some ((), l)
  | .int k, l => popI k l
  | .bool, l => popB l
  | .str, l => popS l
  | .slice, l => popL l
  | .ptr, l => popP l
  | .chan, l => popC l
  | .pair a b, l => match a.deFlat l with
    | some (x, l') => match b.deFlat l' with
      | some (y, l'') => some ((x, y), l'')
      | none => none
    | none => none
  | .agg s, l => s.deFlat l
  | .tup _, _ => none

theorem popI_eq {k : IntKind} {l l' : List Value} {x : Int} (h : popI k l = some (x, l')) : l = .int k x :: l' := by
  unfold popI at h
  split at h
  · split at h
    · split at h
      · rename_i hk; simp at h; obtain ⟨rfl, rfl⟩ := h; rw [hk]
      · cases h
    · cases h
  · cases h
theorem popB_eq {l l' : List Value} {x : Bool} (h : popB l = some (x, l')) : l = .bool x :: l' := by
  unfold popB at h
  split at h
  · split at h
    · simp at h; obtain ⟨rfl, rfl⟩ := h; rfl
    · cases h
  · cases h
theorem popS_eq {l l' : List Value} {x : ByteArray} (h : popS l = some (x, l')) : l = .string x :: l' := by
  unfold popS at h
  split at h
  · split at h
    · simp at h; obtain ⟨rfl, rfl⟩ := h; rfl
    · cases h
  · cases h
theorem popL_eq {l l' : List Value} {x : Sl} (h : popL l = some (x, l')) : l = .slice x.a x.len x.cap :: l' := by
  unfold popL at h
  split at h
  · split at h
    · simp at h; obtain ⟨rfl, rfl⟩ := h; rfl
    · cases h
  · cases h
theorem popP_eq {l l' : List Value} {x : Option Addr} (h : popP l = some (x, l')) : l = .pointer x :: l' := by
  unfold popP at h
  split at h
  · split at h
    · simp at h; obtain ⟨rfl, rfl⟩ := h; rfl
    · cases h
  · cases h
theorem popC_eq {l l' : List Value} {x : Option Nat} (h : popC l = some (x, l')) : l = .chan x :: l' := by
  unfold popC at h
  split at h
  · split at h
    · simp at h; obtain ⟨rfl, rfl⟩ := h; rfl
    · cases h
  · cases h

theorem Sh.deFlat_eq : (s : Sh) → (l l' : List Value) → (x : s.den) → s.deFlat l = some (x, l') → l = s.flat x ++ l'
  | .unit, _, _, _, h => by cases h; rfl
  | .int _, _, _, _, h => popI_eq h
  | .bool, _, _, _, h => popB_eq h
  | .str, _, _, _, h => popS_eq h
  | .slice, _, _, _, h => popL_eq h
  | .ptr, _, _, _, h => popP_eq h
  | .chan, _, _, _, h => popC_eq h
  | .pair a b, l, l', x, h => by
    simp only [Sh.deFlat] at h
    split at h
    · rename_i y l1 h1
      split at h
      · rename_i z l2 h2
        simp at h
        obtain ⟨rfl, rfl⟩ := h
        rw [Sh.deFlat_eq a _ _ _ h1, Sh.deFlat_eq b _ _ _ h2]
        simp [Sh.flat]
      · cases h
    · cases h
  | .agg s, l, l', x, h => Sh.deFlat_eq s l l' x h
  | .tup s, l, l', x, h => by simp [Sh.deFlat] at h

def Sh.leaf : Sh → Bool
  | .int _ | .bool | .str | .slice | .ptr | .chan => true
  | _ => false

/-- nothing may be left -/
def done {α : Type} : Option (α × List Value) → Option α
  | some (x, l) => match l with
    | [] => some x
    | _ :: _ => none
  | none => none
theorem done_eq {α : Type} {o : Option (α × List Value)} {x : α} (h : done o = some x) : o = some (x, []) := by
  unfold done at h
  split at h
  · split at h
    · simp at h; rw [h]
    · cases h
  · cases h

def aggCells : Value → Option (List Value)
  | .agg cs => some cs.toList
  | _ => none
theorem aggCells_eq {v : Value} {l : List Value} (h : aggCells v = some l) : v = .agg l.toArray := by
  unfold aggCells at h
  split at h
  · simp at h; subst h; simp
  · cases h

/-- reads a shape off a value -/
def Sh.dec : (s : Sh) → Value → Option s.den
  | .agg s, v => match aggCells v with
    | some l => done (s.deFlat l)
    | none => none
  | .int k, v => done (popI k [v])
  | .bool, v => done (popB [v])
  | .str, v => done (popS [v])
  | .slice, v => done (popL [v])
  | .ptr, v => done (popP [v])
  | .chan, v => done (popC [v])
  | .pair _ _, _ => none
  | .unit, _ => none
  | .tup _, _ => none

theorem Sh.dec_eq : (s : Sh) → (v : Value) → (x : s.den) → s.dec v = some x → s.enc x = v
  | .agg s, v, x, h => by
    simp only [Sh.dec] at h
    split at h
    · rename_i l hl
      have := Sh.deFlat_eq s _ _ _ (done_eq h)
      rw [aggCells_eq hl, this]
      simp [Sh.enc]
    · cases h
  | .int _, v, x, h => by have := popI_eq (done_eq h); simp at this; exact this.symm
  | .bool, v, x, h => by have := popB_eq (done_eq h); simp at this; exact this.symm
  | .str, v, x, h => by have := popS_eq (done_eq h); simp at this; exact this.symm
  | .slice, v, x, h => by have := popL_eq (done_eq h); simp at this; exact this.symm
  | .ptr, v, x, h => by have := popP_eq (done_eq h); simp at this; exact this.symm
  | .chan, v, x, h => by have := popC_eq (done_eq h); simp at this; exact this.symm
  | .pair _ _, _, _, h => by cases h
  | .unit, _, _, h => by cases h
  | .tup _, _, _, h => by cases h

/-! ## claims -/

/-- what is known of memory: block by block -/
abbrev Claim := Nat → Option Obj

def Claim.none : Claim := fun _ => Option.none
def Claim.le (G G' : Claim) : Prop := ∀ b o, G b = some o → G' b = some o
def Claim.holds (G : Claim) (w : World) : Prop := ∀ b o, G b = some o → w.heap[b]? = some o
def Claim.upd (G : Claim) (b : Nat) (o : Obj) : Claim := fun c => bif Nat.beq c b then some o else G c
def Claim.del (G : Claim) (b : Nat) : Claim := fun c => bif Nat.beq c b then Option.none else G c
/-- both -/
def Claim.and (G H : Claim) : Claim := fun b => match H b with | some o => some o | Option.none => G b
def Claim.disj (G H : Claim) : Prop := ∀ b, G b = Option.none ∨ H b = Option.none
def Claim.cell? (G : Claim) (a : Addr) : Option Value :=
  match G a.block with
  | some (.cells c _ _) => if a.spot.isSome then Option.none else c[a.off]?
  | _ => Option.none

theorem Claim.le_refl (G : Claim) : G.le G := fun _ _ h => h
theorem Claim.le_trans {A B C : Claim} (h : A.le B) (k : B.le C) : A.le C := fun b o x => k b o (h b o x)
theorem Claim.holds_le {G G' : Claim} {w : World} (h : G'.holds w) (l : G.le G') : G.holds w := fun b o x => h b o (l b o x)
theorem beq_ne {b c : Nat} (h : c ≠ b) : Nat.beq c b = false := by
  cases e : Nat.beq c b with
  | false => rfl
  | true => exact absurd (Nat.eq_of_beq_eq_true e) h
theorem Claim.upd_same (G : Claim) (b : Nat) (o : Obj) : G.upd b o b = some o := by simp [Claim.upd]
theorem Claim.upd_ne (G : Claim) {b c : Nat} (o : Obj) (h : c ≠ b) : G.upd b o c = G c := by simp [Claim.upd, beq_ne h]
theorem Claim.del_same (G : Claim) (b : Nat) : G.del b b = Option.none := by simp [Claim.del]
theorem Claim.del_ne (G : Claim) {b c : Nat} (h : c ≠ b) : G.del b c = G c := by simp [Claim.del, beq_ne h]
theorem Claim.and_none (G : Claim) : G.and Claim.none = G := rfl
theorem Claim.holds_and {G H : Claim} {w : World} (h : G.holds w) (k : H.holds w) : (G.and H).holds w := by
  intro b o x
  unfold Claim.and at x
  split at x
  · rename_i o' ho
    simp at x; subst x
    exact k b _ ho
  · exact h b o x
theorem Claim.cell_of {G : Claim} {w : World} (h : G.holds w) {a : Addr} {v : Value} (hv : G.cell? a = some v) : w.cell? a = some v := by
  unfold Claim.cell? at hv
  unfold World.cell?
  split at hv
  · rename_i c e f hc
    rw [h _ _ hc]; exact hv
  · cases hv
theorem Claim.cell_le {G G' : Claim} (l : G.le G') {a : Addr} {v : Value} (hv : G.cell? a = some v) : G'.cell? a = some v := by
  unfold Claim.cell? at hv ⊢
  split at hv
  · rename_i c e f hc
    rw [l _ _ hc]; exact hv
  · cases hv
theorem Claim.le_and_left (G H : Claim) (d : G.disj H) : G.le (G.and H) := by
  intro b o x
  unfold Claim.and
  rcases d b with h | h
  · rw [h] at x; cases x
  · rw [h]; exact x
theorem Claim.le_and_right (G H : Claim) : H.le (G.and H) := by
  intro b o x
  unfold Claim.and
  rw [x]

/-- cells that may be written -/
def Obj.mine : Obj → Bool
  | .cells _ _ (0, 0) => true
  | .chan .. => true
  | _ => false

/-- the cells from an address on -/
def Claim.at (S : Claim) (a : Addr) (vs : List Value) : Prop := ∀ i v, vs[i]? = some v → S.cell? (a.add i) = some v

/-- From world c0 with claims G0 (which stay) and H0 (which are owned) to world c with claims G and H. -/
structure Inv (c0 : World) (G0 H0 : Claim) (c : World) (G H : Claim) : Prop where
  os : c.os = c0.os
  tape : c.tape = c0.tape
  output : c.output = c0.output
  size : c0.heap.size ≤ c.heap.size
  frame : ∀ b, b < c0.heap.size → H0 b = Option.none → c.heap[b]? = c0.heap[b]?
  mono : G0.le G
  gholds : G.holds c
  hholds : H.holds c
  disj : G.disj H
  gold : ∀ b, b < c0.heap.size → G b ≠ Option.none → G0 b ≠ Option.none ∨ H0 b ≠ Option.none
  hold : ∀ b, b < c0.heap.size → H b ≠ Option.none → H0 b ≠ Option.none
  mine : ∀ b o, H b = some o → Obj.mine o = true

theorem Inv.start {c : World} {G H : Claim} (hg : G.holds c) (hh : H.holds c) (d : G.disj H) (hm : ∀ b o, H b = some o → Obj.mine o = true) : Inv c G H c G H :=
  ⟨rfl, rfl, rfl, Nat.le_refl _, fun _ _ _ => rfl, Claim.le_refl _, hg, hh, d, fun _ _ h => .inl h, fun _ _ h => h, hm⟩

theorem Inv.trans {c0 c c' : World} {G0 H0 G H G' H' : Claim} (h : Inv c0 G0 H0 c G H) (k : Inv c G H c' G' H') : Inv c0 G0 H0 c' G' H' where
  os := k.os.trans h.os
  tape := k.tape.trans h.tape
  output := k.output.trans h.output
  size := Nat.le_trans h.size k.size
  frame := fun b hb hn => by
    have h1 := h.frame b hb hn
    rw [← h1]
    refine k.frame b (Nat.lt_of_lt_of_le hb h.size) ?_
    cases hH : H b with
    | none => rfl
    | some o => exact absurd hn (h.hold b hb (by simp [hH]))
  mono := Claim.le_trans h.mono k.mono
  gholds := k.gholds
  hholds := k.hholds
  disj := k.disj
  gold := fun b hb hn => by
    rcases k.gold b (Nat.lt_of_lt_of_le hb h.size) hn with h1 | h1
    · exact h.gold b hb h1
    · exact .inr (h.hold b hb h1)
  hold := fun b hb hn => h.hold b hb (k.hold b (Nat.lt_of_lt_of_le hb h.size) hn)
  mine := k.mine

/-- less is owned, more is known for good -/
structure Frz (G H G' H' : Claim) : Prop where
  le : G.le G'
  hle : H'.le H
  sub : ∀ b o, G' b = some o → G b = some o ∨ H b = some o
  disj : G'.disj H'

theorem Frz.refl {G H : Claim} (d : G.disj H) : Frz G H G H := ⟨Claim.le_refl _, Claim.le_refl _, fun _ _ h => .inl h, d⟩

/-! ## contracts -/

/-- a call that only computes: in whatever world in which the claim holds it gives r, and leaves what is there -/
def PureAt (P : Program) (f : FuncId) (args : List Value) (S : Claim) (sh : Sh) (r : sh.den) : Prop :=
  ∀ c, S.holds c → Calls P f args.toArray c fun e c' => e = .returned (sh.enc r) ∧ RowKit.Below c.heap.size c c'

/-- a call that may make memory, and write what is owned -/
def CallAt (P : Program) (f : FuncId) (args : List Value) (G H : Claim) (sh : Sh) (R : sh.den → Claim → Claim → Prop) : Prop :=
  ∀ c, G.holds c → H.holds c → G.disj H → (∀ b o, H b = some o → Obj.mine o = true) →
    Calls P f args.toArray c fun e c' => ∃ r G' H', e = .returned (sh.enc r) ∧ Inv c G H c' G' H' ∧ R r G' H'

theorem PureAt.le {P : Program} {f : FuncId} {args : List Value} {S S' : Claim} {sh : Sh} {r : sh.den} (h : PureAt P f args S sh r) (l : S.le S') : PureAt P f args S' sh r :=
  fun c hc => h c (Claim.holds_le hc l)

/-! ## trees -/

inductive T where
  | ret (v : Value)
  | again (sh : Sh) (x : sh.den)
  | pop (t : T)
  | cond (b : Bool) (t e : T)
  | must (p : Prop) (k : T)
  | dcall (b : Bool) (f : FuncId) (args : List Value) (sh : Sh) (k : sh.den → T)
  | call (f : FuncId) (args : List Value) (sh : Sh) (k : sh.den → T)
  | load (b : Bool) (sh : Sh) (a : Addr) (k : sh.den → T)
  | dcallG (b : Bool) (f : FuncId) (args : List Value) (sh : Sh) (k : sh.den → T)
  | loadG (b : Bool) (sh : Sh) (a : Addr) (k : sh.den → T)
  | both (t u : T)
  | loadStr (a : Option Addr) (n : Nat) (k : ByteArray → T)
  | store (a : Addr) (vs : List Value) (k : T)
  | new (cells : List Value) (ty : TypeId) (k : Nat → T)
  | lit (b : Bool) (cells : List Value) (ty : TypeId) (k : Nat → T)
  | append (ty : TypeId) (size bytes : Nat) (s x : Sl) (k : Sl → T)
  | loop (sh : Sh) (init : sh.den) (body : sh.den → T)
  | callG (b : Bool) (f : FuncId) (args : List Value) (sh : Sh) (k : sh.den → T)
  | newObj (o : Obj) (k : Nat → T)
  | trySend (c : Option Nat) (v : Value) (k : Bool → T)
  | recv (c : Option Nat) (k : Value → T)
  | stuck

/-- the row s has the cells xs, owned -/
def Own (H : Claim) (ty : TypeId) (size : Nat) (s : Sl) (xs : List Value) : Prop :=
  xs.length = s.len * size ∧
  ((s.len = 0 ∧ s.cap = 0) ∨
   ∃ g cur, s.a = some ⟨g, 0, Option.none⟩ ∧ H g = some (.cells cur ty (0, 0)) ∧ s.len ≤ s.cap ∧ s.cap ≤ maxLen ∧ cur.size = s.cap * size ∧ cur.toList.take (s.len * size) = xs)

/-- the block of a slice -/
def Sl.in (s : Sl) (b : Nat) : Prop := ∃ a, s.a = some a ∧ a.block = b

/-- what holds at the heads of the loops around, the innermost first -/
abbrev Env := List ((sh : Sh) → sh.den → Claim → Claim → Prop)
def headJ (sh : Sh) (J : sh.den → Claim → Claim → Prop) : (sh' : Sh) → sh'.den → Claim → Claim → Prop :=
  fun sh' x G H => ∃ h : sh' = sh, J (h ▸ x) G H

def T.wp (P : Program) : T → Env → Claim → Claim → (Value → Claim → Claim → Prop) → Prop
  | .ret v, _, G, H, Q => Q v G H ∨ ∃ G1 H1, Frz G H G1 H1 ∧ Q v G1 H1
  | .again sh x, E, G, H, _ => match E with
    | J :: _ => J sh x G H
    | [] => False
  | .pop t, E, G, H, Q => match E with
    | _ :: E' => t.wp P E' G H Q
    | [] => False
  | .cond b t e, E, G, H, Q => (b = true → t.wp P E G H Q) ∧ (b = false → e.wp P E G H Q)
  | .must p k, E, G, H, Q => p ∧ k.wp P E G H Q
  | .dcall b f args sh k, E, G, H, Q => ∃ r, (b = true → PureAt P f args (G.and H) sh r) ∧ (k r).wp P E G H Q
  | .call f args sh k, E, G, H, Q => ∃ R : sh.den → Claim → Claim → Prop, CallAt P f args G H sh R ∧ ∀ r G' H', G.le G' → G'.disj H' → R r G' H' → (k r).wp P E G' H' Q
  | .load b sh a k, E, G, H, Q => ∃ r, (b = true → (G.and H).at a (sh.flat r)) ∧ (k r).wp P E G H Q
  | .dcallG b f args sh k, E, G, H, Q => ∃ G1 H1, Frz G H G1 H1 ∧ ∃ r, (b = true → PureAt P f args G1 sh r) ∧ (k r).wp P E G1 H1 Q
  | .loadG b sh a k, E, G, H, Q => ∃ G1 H1, Frz G H G1 H1 ∧ ∃ r, (b = true → G1.at a (sh.flat r)) ∧ (k r).wp P E G1 H1 Q
  | .both t u, E, G, H, Q => t.wp P E G H Q ∧ u.wp P E G H Q
  | .loadStr a n k, E, G, H, Q => ∃ s : ByteArray, s.size = n ∧ (n ≠ 0 → ∃ a', a = some a' ∧ (G.and H).at a' (s.data.toList.map fun b => .int .u8 b.toNat)) ∧ (k s).wp P E G H Q
  | .store a vs k, E, G, H, Q => ∃ c ty, H a.block = some (.cells c ty (0, 0)) ∧ a.spot = Option.none ∧ a.off + vs.length ≤ c.size ∧
      k.wp P E G (H.upd a.block (.cells (c.toList.take a.off ++ vs ++ c.toList.drop (a.off + vs.length)).toArray ty (0, 0))) Q
  | .new cs ty k, E, G, H, Q => ∀ n, G n = Option.none → H n = Option.none → (k n).wp P E G (H.upd n (.cells cs.toArray ty (0, 0))) Q
  | .lit b cs ty k, E, G, H, Q => ∀ n G', G.le G' → G'.disj H → G n = Option.none → H n = Option.none → (b = true → G' n = some (.cells cs.toArray ty (0, 0))) → (k n).wp P E G' H Q
  | .append ty size bytes s x k, E, G, H, Q => ∃ xs ys, Own H ty size s xs ∧ ys.length = x.len * size ∧ (∀ v ∈ ys, v.oneCell' = true) ∧ (x.len ≠ 0 → ∃ a, x.a = some a ∧ (G.and H).at a ys) ∧
      s.len + x.len ≤ maxLen ∧ (s.len + x.len) * bytes ≤ 140737488355328 ∧
      ∀ s' H', Own H' ty size s' (xs ++ ys) → s'.len = s.len + x.len → (∀ b, s'.in b → s.in b ∨ (G b = Option.none ∧ H b = Option.none)) →
        (∀ b, ¬ s'.in b → ¬ s.in b → H' b = H b) → (∀ b, ¬ s'.in b → s.in b → H' b = Option.none) → ((s.len + x.len ≤ s.cap → s'.a = s.a ∧ s'.cap = s.cap) ∧ (x.len = 0 → s' = s ∧ H' = H)) → G.disj H' → (k s').wp P E G H' Q
  | .loop sh init body, E, G, H, Q => ∃ (I : sh.den → Claim → Claim → Prop) (m : sh.den → Claim → Claim → Nat), I init G H ∧
      ∀ x G' H', G.le G' → G'.disj H' → I x G' H' → (body x).wp P (headJ sh (fun x' G'' H'' => I x' G'' H'' ∧ m x' G'' H'' < m x G' H') :: E) G' H' Q
  | .callG b f args sh k, E, G, H, Q => (b = true → ∃ R : sh.den → Claim → Claim → Prop, CallAt P f args G H sh R ∧ ∀ r G' H', G.le G' → G'.disj H' → R r G' H' → (k r).wp P E G' H' Q) ∧ (b = false → ∃ r, (k r).wp P E G H Q)
  | .newObj o k, E, G, H, Q => Obj.mine o = true ∧ ∀ n, G n = Option.none → H n = Option.none → (k n).wp P E G (H.upd n o) Q
  | .trySend c v k, E, G, H, Q => ∃ r cap buf s rc tm, c = some r ∧ H r = some (.chan cap buf false s rc tm) ∧ (buf.size < cap → (k true).wp P E G (H.upd r (.chan cap (buf.push v) false (s + 1) rc tm)) Q) ∧ (¬ buf.size < cap → (k false).wp P E G H Q)
  | .recv c k, E, G, H, Q => ∃ r cap buf cl s rc tm, c = some r ∧ H r = some (.chan cap buf cl s rc tm) ∧ 0 < buf.size ∧ (k (buf.getD 0 undef)).wp P E G (H.upd r (.chan cap (buf.extract 1 buf.size) cl s (rc + 1) tm)) Q
  | .stuck, _, _, _, _ => False

end Go.Ev
