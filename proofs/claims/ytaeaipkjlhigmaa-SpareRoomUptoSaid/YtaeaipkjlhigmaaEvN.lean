/- The framework, part N: equality of structs, by a look at the types; which functions are good, by a look at the program. -/
import Derived.Test.YtaeaipkjlhigmaaEvL
import Derived.Laws.StructEq
namespace Go.Ev

def goodB (P : Program) (f : FuncId) : Bool :=
  match P.funcs[f]? with
  | some fn => fn.body.isSome && !(fn.name == "runtime.NumGoroutine")
  | none => false

theorem goodB_ok {P : Program} {f : FuncId} (h : goodB P f = true) : GoodFn P f := by
  unfold goodB at h
  split at h
  · rename_i fn hf
    simp only [Bool.and_eq_true, Bool.not_eq_true'] at h
    exact ⟨fn, hf, h.1, h.2⟩
  · cases h

theorem good_list {P : Program} {l : List Nat} (h : (l.all fun f => goodB P f) = true) : ∀ f, memN f l = true → GoodFn P f :=
  fun f hf => goodB_ok (List.all_eq_true.1 h f (memN_iff.1 hf))

section
variable {cx : Cx}

def isStruct : TypeDesc → Bool
  | .struct _ => true
  | _ => false

def fieldsOk (cx : Cx) (ok : TypeId → Bool) (d : Nat) : Nat → List Field → Bool
  | _, [] => true
  | o, f :: fs => !(f.name == "_") && (Nat.beq f.offset o && (Nat.blt 0 (cx.size f.type) && (Nat.beq (cx.shape d f.type).size (cx.size f.type) && (fits (cx.shape d f.type) (cx.isAgg f.type) && (ok f.type && fieldsOk cx ok d (o + cx.size f.type) fs)))))

/-- can data of a type be compared, and does that come to 'eqDen'? -/
def eqB (cx : Cx) : Nat → TypeId → Bool
  | 0, _ => false
  | d + 1, t => match cx.under t with
    | .int _ => true
    | .bool => true
    | .string => true
    | .struct fs => !cx.P.stoodInHeld t && fieldsOk cx (eqB cx d) d 0 fs.toList
    | _ => false

theorem fits_leaf {s : Sh} (h : fits s false = true) (x : s.den) : s.flat x = [s.enc x] := by
  cases s <;> first | (cases h; done) | rfl
theorem fits_enc {s : Sh} (h : fits s true = true) (x : s.den) : s.enc x = .agg (s.flat x).toArray := by
  cases s <;> first | (cases h; done) | rfl

theorem run_part {t : TypeId} {d : Nat} (h0 : 0 < cx.size t) (hs : (cx.shape d t).size = cx.size t) (hf : fits (cx.shape d t) (cx.isAgg t) = true) (pre post : List Value) (x : (cx.shape d t).den) (w : World) :
    (part t (pre ++ ((cx.shape d t).flat x ++ post)).toArray pre.length).run cx.P w = .ok ((cx.shape d t).enc x) w := by
  have hu : (cx.P.underlying t).isSome = true := by
    cases e : cx.P.underlying t with
    | some _ => rfl
    | none =>
      exfalso
      have e' : cx.under t = .invalid := by unfold Cx.under; rw [e]; rfl
      have : ∀ d, cx.shape d t = .unit := by
        intro d
        cases d with
        | zero => rfl
        | succ d => unfold Cx.shape; rw [e']
      rw [this d] at hs
      simp [Sh.size] at hs
      omega
  unfold part
  simp only [Sem.run_bind, run_isAgg hu, Result.andThen_ok]
  have hl := Sh.flat_length (cx.shape d t) x
  cases hag : cx.isAgg t with
  | true =>
    rw [hag] at hf
    simp only [if_true, Sem.run_bind, run_size h0, Result.andThen_ok, Sem.run_pure]
    rw [fits_enc hf]
    congr 3
    apply Array.toList_inj.1
    rw [Array.toList_extract]
    simp only [List.extract_eq_take_drop]
    rw [List.drop_left]
    rw [← hs, ← hl, Nat.add_sub_cancel_left, List.take_left]
  | false =>
    rw [hag] at hf
    rw [fits_leaf hf]
    simp

theorem eq_fields {d D : Nat} {ok : TypeId → Bool} (ih : ∀ t, ok t = true → ∀ (x y : (cx.shape d t).den) (w : World), (Op.equalIn D t ((cx.shape d t).enc x) ((cx.shape d t).enc y)).run cx.P w = .ok (eqDen (cx.shape d t) x y) w) :
    ∀ (fs : List Field) (pre pre' : List Value), pre'.length = pre.length → fieldsOk cx ok d pre.length fs = true → ∀ (x y : (rowSh (fs.map fun f : Field => cx.shape d f.type)).den) (w : World),
      (Op.eqFields D (pre ++ (rowSh (fs.map fun f : Field => cx.shape d f.type)).flat x).toArray (pre' ++ (rowSh (fs.map fun f : Field => cx.shape d f.type)).flat y).toArray fs).run cx.P w = .ok (eqDen (rowSh (fs.map fun f : Field => cx.shape d f.type)) x y) w
  | [], pre, pre', hl, hok, x, y, w => by
    show (Op.eqFields D _ _ []).run cx.P w = .ok true w
    simp [Op.eqFields]
  | [f], pre, pre', hl, hok, x, y, w => by
    simp only [fieldsOk, Bool.and_eq_true, Bool.not_eq_true', Nat.beq_eq, Nat.blt_eq] at hok
    obtain ⟨hn, ho, h0, hs, hf, hk, _⟩ := hok
    have hn' : f.name ≠ "_" := by simpa using hn
    have p1 := run_part h0 hs hf pre [] x w
    have p2 := run_part h0 hs hf pre' [] y w
    rw [List.append_nil] at p1 p2
    rw [Op.eqFields]
    rw [if_pos hn', ho]
    simp only [Sem.run_bind]
    show ((part f.type (pre ++ (cx.shape d f.type).flat x).toArray pre.length).run cx.P w).andThen _ = _
    rw [p1, Result.andThen_ok]
    show ((part f.type (pre' ++ (cx.shape d f.type).flat y).toArray pre.length).run cx.P w).andThen _ = _
    rw [← hl, p2, Result.andThen_ok, ih f.type hk x y w, Result.andThen_ok]
    show _ = Result.ok (eqDen (cx.shape d f.type) x y) w
    cases eqDen (cx.shape d f.type) x y with
    | false => simp
    | true => simp [Op.eqFields]
  | f :: g :: fs, pre, pre', hl, hok, x, y, w => by
    rw [fieldsOk] at hok
    simp only [Bool.and_eq_true, Bool.not_eq_true', Nat.beq_eq, Nat.blt_eq] at hok
    obtain ⟨hn, ho, h0, hs, hf, hk, hrest⟩ := hok
    have hn' : f.name ≠ "_" := by simpa using hn
    have l1 := Sh.flat_length (cx.shape d f.type) x.1
    have l2 := Sh.flat_length (cx.shape d f.type) y.1
    have p1 := run_part h0 hs hf pre ((rowSh ((g :: fs).map fun f : Field => cx.shape d f.type)).flat x.2) x.1 w
    have p2 := run_part h0 hs hf pre' ((rowSh ((g :: fs).map fun f : Field => cx.shape d f.type)).flat y.2) y.1 w
    have e := eq_fields ih (g :: fs) (pre ++ (cx.shape d f.type).flat x.1) (pre' ++ (cx.shape d f.type).flat y.1) (by simp [hl, l1, l2]) (by rw [List.length_append, l1, hs]; exact hrest) x.2 y.2 w
    rw [List.append_assoc, List.append_assoc] at e
    rw [Op.eqFields]
    rw [if_pos hn', ho]
    simp only [Sem.run_bind]
    show ((part f.type (pre ++ ((cx.shape d f.type).flat x.1 ++ (rowSh ((g :: fs).map fun f : Field => cx.shape d f.type)).flat x.2)).toArray pre.length).run cx.P w).andThen _ = _
    rw [p1, Result.andThen_ok]
    show ((part f.type (pre' ++ ((cx.shape d f.type).flat y.1 ++ (rowSh ((g :: fs).map fun f : Field => cx.shape d f.type)).flat y.2)).toArray pre.length).run cx.P w).andThen _ = _
    rw [← hl, p2, Result.andThen_ok, ih f.type hk x.1 y.1 w, Result.andThen_ok]
    show _ = Result.ok (eqDen (cx.shape d f.type) x.1 y.1 && eqDen (rowSh ((g :: fs).map fun f : Field => cx.shape d f.type)) x.2 y.2) w
    cases eqDen (cx.shape d f.type) x.1 y.1 with
    | false => simp
    | true =>
      simp only [Bool.true_and, Bool.not_true, Bool.false_eq_true, if_false]
      exact e

theorem eqB_ok : ∀ (d : Nat) (t : TypeId), eqB cx d t = true → ∀ (D : Nat), d ≤ D → ∀ (x y : (cx.shape d t).den) (w : World),
    (Op.equalIn D t ((cx.shape d t).enc x) ((cx.shape d t).enc y)).run cx.P w = .ok (eqDen (cx.shape d t) x y) w
  | 0, t, h, D, hD, x, y, w => by cases h
  | d + 1, t, h, D, hD, x, y, w => by
    obtain ⟨D, rfl⟩ : ∃ k, D = k + 1 := ⟨D - 1, by omega⟩
    have key : ∀ u, cx.under t = u → cx.shape (d + 1) t = (match u with
      | .int k => .int k
      | .bool => .bool
      | .string => .str
      | .slice _ => .slice
      | .pointer _ => .ptr
      | .chan _ _ => .chan
      | .struct fs => .agg (rowSh (fs.toList.map fun f : Field => cx.shape d f.type))
      | .array n e => .agg (repSh (cx.shape d e) n)
      | _ => .unit) := fun u hu => by rw [← hu]; rfl
    unfold eqB at h
    split at h
    · rename_i k hu
      have hu' := under_some hu (by simp)
      have k := key _ hu
      simp only at k
      revert x y
      rw [k]
      intro x y
      unfold Op.equalIn
      simp only [Sem.run_bind, run_underlying hu', Result.andThen_ok, Sh.enc, if_true, Sem.run_pure]
      rfl
    · rename_i hu
      have hu' := under_some hu (by simp)
      have k := key _ hu
      simp only at k
      revert x y
      rw [k]
      intro x y
      exact run_eqIn_bool hu' D x y
    · rename_i hu
      have hu' := under_some hu (by simp)
      have k := key _ hu
      simp only at k
      revert x y
      rw [k]
      intro x y
      unfold Op.equalIn
      simp only [Sem.run_bind, run_underlying hu', Result.andThen_ok, Sh.enc, Sem.run_pure]
      rfl
    · rename_i fs hu
      have hu' := under_some hu (by simp)
      simp only [Bool.and_eq_true, Bool.not_eq_true'] at h
      have k := key _ hu
      simp only at k
      revert x y
      rw [k]
      intro x y
      have hfo : cx.P.fieldsOf t = fs := by simp [Program.fieldsOf, hu']
      show (Op.equalIn (D + 1) t (.agg ((rowSh (fs.toList.map fun f : Field => cx.shape d f.type)).flat x).toArray) (.agg ((rowSh (fs.toList.map fun f : Field => cx.shape d f.type)).flat y).toArray)).run cx.P w = _
      rw [run_equalIn_struct (P := cx.P) w D t _ _ (by rw [hfo]; exact hu') h.1, hfo]
      have := eq_fields (fun t ht x y w => eqB_ok d t ht D (by omega) x y w) fs.toList [] [] rfl (by simpa using h.2) x y w
      simp only [List.nil_append] at this
      exact this
    · cases h

theorem eqOK_of {t : TypeId} (h : (eqB cx 12 t && !cx.P.eqGuardType cx.P.depth t) = true) : EqOK cx t := by
  simp only [Bool.and_eq_true, Bool.not_eq_true'] at h
  exact ⟨h.2, fun x y w => eqB_ok 12 t h.1 Op.maxDepth (by decide) x y w⟩

theorem eq_list {l : List Nat} (h : (l.all fun t => eqB cx 12 t && !cx.P.eqGuardType cx.P.depth t) = true) : ∀ t, memN t l = true → EqOK cx t :=
  fun t ht => eqOK_of (List.all_eq_true.1 h t (memN_iff.1 ht))
end

end Go.Ev
