/- The framework, part E: each operation does what its effect says (numbers, texts, parts, addresses). -/
import Derived.Test.YtaeaipkjlhigmaaEvD
namespace Go.Ev

def GoodFn (P : Program) (f : FuncId) : Prop := ∃ fn, P.funcs[f]? = some fn ∧ fn.body.isSome = true ∧ (fn.name == "runtime.NumGoroutine") = false

def EqOK (cx : Cx) (t : TypeId) : Prop :=
  cx.P.eqGuardType cx.P.depth t = false ∧ ∀ (x y : (cx.shp t).den) (w : World), (Op.equal t ((cx.shp t).enc x) ((cx.shp t).enc y)).run cx.P w = .ok (eqDen (cx.shp t) x y) w

section
variable {cx : Cx} {fx : Fx} {c0 : World} {G0 H0 : Claim} {B : Nat → Nat} {σ : St} {G H : Claim} {a : Act} {c : World} {g : List (Nat × Bool)} {o : Oper}

theorem sem_val {x : AVal} {v : Value} {P : Program} {r : Result Next} (hr : r = .ok (.value v) c) (hv : vrel B x v) : EffSem P B c (.val x) r := ⟨v, hr, hv⟩

theorem vals?_eq (h : Rel c0 G0 H0 B σ G H a c) (s : Sat g a.tmps) : ∀ (l : List Operand) (vs : List Value), vals? (l.map (rd σ g)) = some vs → l.map a.eval = vs
  | [], vs, e => by simp [vals?] at e; simp [e]
  | x :: l, vs, e => by
    simp only [List.map_cons] at e
    have hx := h.rd s x
    cases hrd : rd σ g x with
    | v y =>
      rw [hrd] at e hx
      simp only [vals?] at e
      split at e
      · rename_i r hr
        simp at e
        rw [List.map_cons, vals?_eq h s l r hr, ← e]
        congr 1
      · cases e
    | bp id off => rw [hrd] at e; simp [vals?] at e
    | junk => rw [hrd] at e; simp [vals?] at e

theorem intOf?_some {x : AVal} {k : IntKind} {n : Int} (h : intOf? x = some (k, n)) : x = .v (.int k n) := by
  cases x with
  | v y => cases y <;> simp [intOf?] at h; rw [h.1, h.2]
  | bp id off => simp [intOf?] at h
  | junk => simp [intOf?] at h
theorem slOf?_some {x : AVal} {s : Sl} (h : slOf? x = some s) : x = .v (.slice s.a s.len s.cap) := by
  cases x with
  | v y => cases y <;> simp [slOf?] at h; rw [← h]
  | bp id off => simp [slOf?] at h
  | junk => simp [slOf?] at h
theorem addr?_some {x : AVal} {ad : Addr} (h : addr? x = some ad) : x = .v (.pointer (some ad)) := by
  cases x with
  | v y =>
    cases y with
    | pointer p => cases p <;> simp [addr?] at h; rw [h]
    | _ => simp [addr?] at h
  | bp id off => simp [addr?] at h
  | junk => simp [addr?] at h

theorem Rel.rdi (h : Rel c0 G0 H0 B σ G H a c) (s : Sat g a.tmps) {x : Operand} {k : IntKind} {n : Int} (e : intOf? (Ev.rd σ g x) = some (k, n)) : a.eval x = .int k n := by
  have := h.rd s x; rw [intOf?_some e] at this; exact this
theorem Rel.rdsl (h : Rel c0 G0 H0 B σ G H a c) (s : Sat g a.tmps) {x : Operand} {z : Sl} (e : slOf? (Ev.rd σ g x) = some z) : a.eval x = .slice z.a z.len z.cap := by
  have := h.rd s x; rw [slOf?_some e] at this; exact this
theorem Rel.rdad (h : Rel c0 G0 H0 B σ G H a c) (s : Sat g a.tmps) {x : Operand} {ad : Addr} (e : addr? (Ev.rd σ g x) = some ad) : a.eval x = .pointer (some ad) := by
  have := h.rd s x; rw [addr?_some e] at this; exact this
theorem Rel.rdbp (h : Rel c0 G0 H0 B σ G H a c) (s : Sat g a.tmps) {x : Operand} {id off : Nat} (e : Ev.rd σ g x = .bp id off) : a.eval x = .pointer (some ⟨B id, off, none⟩) := by
  have := h.rd s x; rw [e] at this; exact this

theorem eff_pick (h : Rel c0 G0 H0 B σ G H a c) (s : Sat g a.tmps) {x y z : Operand} (ho : o.op = .pick x y z) :
    EffSem cx.P B c (effPick σ g x y z) ((execOp a.eval o).run cx.P c) := by
  unfold effPick
  split
  · rename_i t
    split
    · rename_i cb hcb
      have hv := val?_some (bool?_some hcb)
      have hc := h.rdT s t
      rw [hv] at hc
      have hc' : a.eval (.tmp t) = .bool cb := hc
      split
      · rename_i p q hp hq
        have hp' := bool?_some hp
        have hq' := bool?_some hq
        refine sem_val (v := .bool (bif cb then p else q)) ?_ rfl
        unfold execOp
        simp only [ho, Sem.run_bind, hc', asBool, Sem.run_pure, Result.andThen_ok]
        cases cb with
        | true =>
          have st : Sat ((t, true) :: g) a.tmps := by
            intro w hw
            simp at hw
            rcases hw with rfl | hw
            · exact getD_bool hc'
            · exact s w hw
          have := h.rdv st hp'
          simp [this]
        | false =>
          have st : Sat ((t, false) :: g) a.tmps := by
            intro w hw
            simp at hw
            rcases hw with rfl | hw
            · exact getD_bool hc'
            · exact s w hw
          have := h.rdv st hq'
          simp [this]
      · exact trivial
    · exact trivial
  · exact trivial

theorem run_bin_int {P : Program} {w : World} {op : BinOp} {t : TypeId} {k : IntKind} {x y : Int} (ho : op ≠ .shl) (ho' : op ≠ .shr) :
    (binOp op t (.int k x) (.int k y)).run P w = (match op with
      | .add | .sub | .mul => Op.intArith op k x y
      | .quo | .rem => Op.intDiv op k x y
      | .and | .or | .xor | .andNot => Op.intBits op k x y
      | _ => Op.intCmp op x y).run P w := by
  cases op <;> simp [binOp] at ho ho' ⊢

theorem run_guard_plain {P : Program} {w : World} {op : BinOp} {t : TypeId} {x y : Operand} {u v : Value} (h : (∀ p q, u = .agg p → v = .agg q → False)) (h' : (u = .nilIface → False)) :
    (eqGuard op t x y u v).run P w = .ok () w := by
  unfold eqGuard
  cases op <;> simp <;> (split <;> first | rfl | exact (h' rfl).elim | exact (h _ _ rfl rfl).elim)

theorem run_eqIn_bool {P : Program} {w : World} {t : TypeId} (ht : P.underlying t = some .bool) (d : Nat) (x y : Bool) : (Op.equalIn (d + 1) t (.bool x) (.bool y)).run P w = .ok (x == y) w := by
  unfold Op.equalIn
  simp only [Sem.run_bind, run_underlying ht, Result.andThen_ok, Sem.run_pure]
theorem run_eqIn_ptr {P : Program} {w : World} {t e : TypeId} (ht : P.underlying t = some (.pointer e)) (d : Nat) (x : Option Addr) : (Op.equalIn (d + 1) t (.pointer x) (.pointer none)).run P w = .ok x.isNone w := by
  unfold Op.equalIn
  cases x <;> simp only [Sem.run_bind, run_underlying ht, Result.andThen_ok, Sem.run_pure, Option.isNone]
theorem run_eqIn_sl {P : Program} {w : World} {t e : TypeId} (ht : P.underlying t = some (.slice e)) (d : Nat) (x : Option Addr) (n m k l : Nat) : (Op.equalIn (d + 1) t (.slice x n m) (.slice none k l)).run P w = .ok x.isNone w := by
  unfold Op.equalIn
  cases x <;> simp only [Sem.run_bind, run_underlying ht, Result.andThen_ok, Sem.run_pure, Option.isNone]
theorem run_eq_bool {P : Program} {w : World} {t : TypeId} (ht : P.underlying t = some .bool) (x y : Bool) : (Op.equal t (.bool x) (.bool y)).run P w = .ok (x == y) w := run_eqIn_bool ht 9999 x y
theorem run_eq_ptr {P : Program} {w : World} {t e : TypeId} (ht : P.underlying t = some (.pointer e)) (x : Option Addr) : (Op.equal t (.pointer x) (.pointer none)).run P w = .ok x.isNone w := run_eqIn_ptr ht 9999 x
theorem run_eq_sl {P : Program} {w : World} {t e : TypeId} (ht : P.underlying t = some (.slice e)) (x : Option Addr) (n m k l : Nat) : (Op.equal t (.slice x n m) (.slice none k l)).run P w = .ok x.isNone w := run_eqIn_sl ht 9999 x n m k l

theorem eff_bin (h : Rel c0 G0 H0 B σ G H a c) (s : Sat g a.tmps) (heq : ∀ t, cx.eqT t = true → EqOK cx t) {op : BinOp} {t u : TypeId} {x y : Operand} (ho : o.op = .binOp op t x y u) {p q : Value}
    (hp : (rd σ g x).val? = some p) (hq : (rd σ g y).val? = some q) : EffSem cx.P B c (effBin cx op t p q) ((execOp a.eval o).run cx.P c) := by
  have ep := h.rdv s hp
  have eq := h.rdv s hq
  have hrun : (execOp a.eval o).run cx.P c = ((eqGuard op t x y p q).run cx.P c).andThen fun _ w => ((binOp op t p q).run cx.P w).andThen fun v w => .ok (.value v) w := by
    unfold execOp
    simp only [ho, Sem.run_bind, ep, eq, Sem.run_pure]
    cases (eqGuard op t x y p q).run cx.P c <;> rfl
  rw [hrun]
  unfold effBin
  split
  · -- ints
    rename_i k m k' n
    rw [run_guard_plain (by intro _ _ e; cases e) (by intro e; cases e)]
    simp only [Result.andThen_ok]
    split
    · -- shl
      intro hb
      refine ⟨_, ?_, rfl⟩
      simp [binOp, Op.shift, show ¬ n < 0 by omega]
    · intro hb
      refine ⟨_, ?_, rfl⟩
      simp [binOp, Op.shift, show ¬ n < 0 by omega]
    · rename_i h1 h2
      cases hk : decide (k = k') with
      | false => exact trivial
      | true =>
        have hk' : k = k' := by simpa using hk
        subst hk'
        simp only [cond_true]
        rw [run_bin_int (fun e => h1 e) (fun e => h2 e)]
        cases op <;> first
          | exact trivial
          | (refine ⟨_, ?_, rfl⟩; simp [Op.intArith, Op.intBits, Op.intCmp, bitsI]; done)
          | (intro hb; refine ⟨_, ?_, rfl⟩; simp [Op.intDiv, hb]; done)
          | (exact absurd rfl h1)
          | (exact absurd rfl h2)
  · -- strings
    rename_i m n
    rw [run_guard_plain (by intro _ _ e; cases e) (by intro e; cases e)]
    simp only [Result.andThen_ok]
    split
    · intro hb
      refine ⟨_, ?_, rfl⟩
      have : ¬ (((m.size + n.size : Nat) : Int) > IntKind.i64.max) := by
        have e : IntKind.i64.max = 9223372036854775807 := by decide
        rw [e]; omega
      simp only [binOp, Op.stringOp]
      rw [if_neg this]
      rfl
    · refine ⟨_, ?_, rfl⟩; simp [binOp, Op.stringOp]
    · refine ⟨_, ?_, rfl⟩; simp [binOp, Op.stringOp]
    · exact trivial
  · -- bools
    rename_i m n
    rw [run_guard_plain (by intro _ _ e; cases e) (by intro e; cases e)]
    simp only [Result.andThen_ok]
    split
    · rename_i hu
      have hu' := under_some hu (by simp)
      split
      · refine ⟨_, ?_, rfl⟩; simp only [binOp, Sem.run_bind, run_eq_bool hu', Result.andThen_ok, Sem.run_pure]
      · refine ⟨_, ?_, rfl⟩; simp only [binOp, Sem.run_bind, run_eq_bool hu', Result.andThen_ok, Sem.run_pure]
      · exact trivial
    · exact trivial
  · -- structs
    rename_i m n
    cases ht : cx.eqT t with
    | false => exact trivial
    | true =>
      simp only [cond_true]
      obtain ⟨h1, h2⟩ := heq t ht
      split
      · rename_i xd yd hx hy
        have ex := Sh.dec_eq _ _ _ hx
        have ey := Sh.dec_eq _ _ _ hy
        have hg : (eqGuard op t x y (.agg m) (.agg n)).run cx.P c = .ok () c := by
          unfold eqGuard
          cases op <;> simp [h1]
        rw [hg]
        simp only [Result.andThen_ok]
        have := h2 xd yd c
        rw [ex, ey] at this
        split
        · refine ⟨_, ?_, rfl⟩; simp only [binOp, Sem.run_bind, this, Result.andThen_ok, Sem.run_pure]
        · refine ⟨_, ?_, rfl⟩; simp only [binOp, Sem.run_bind, this, Result.andThen_ok, Sem.run_pure]
        · exact trivial
      · exact trivial
  · -- pointer and nil
    rename_i m
    rw [run_guard_plain (by intro _ _ e; cases e) (by intro e; cases e)]
    simp only [Result.andThen_ok]
    split
    · rename_i e hu
      have hu' := under_some hu (by simp)
      split
      · refine ⟨_, ?_, rfl⟩
        simp only [binOp, Sem.run_bind, run_eq_ptr hu', Result.andThen_ok, Sem.run_pure]
      · refine ⟨_, ?_, rfl⟩
        simp only [binOp, Sem.run_bind, run_eq_ptr hu', Result.andThen_ok, Sem.run_pure]
      · exact trivial
    · exact trivial
  · -- slice and nil
    rename_i m _ _ _ _
    rw [run_guard_plain (by intro _ _ e; cases e) (by intro e; cases e)]
    simp only [Result.andThen_ok]
    split
    · rename_i e hu
      have hu' := under_some hu (by simp)
      split
      · refine ⟨_, ?_, rfl⟩
        simp only [binOp, Sem.run_bind, run_eq_sl hu', Result.andThen_ok, Sem.run_pure]
      · refine ⟨_, ?_, rfl⟩
        simp only [binOp, Sem.run_bind, run_eq_sl hu', Result.andThen_ok, Sem.run_pure]
      · exact trivial
    · exact trivial
  · exact trivial
end

end Go.Ev
