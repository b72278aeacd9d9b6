/- The framework, part P: a law's arguments, opened: what their data are, and that memory holds them; the answer, shut. -/
import Derived.Test.YtaeaipkjlhigmaaEvO
import Derived.Deep.Slices
import Derived.ReadAgain
import Derived.JoinedCond
import Derived.ProofKit
import Derived.OpenShut
namespace Go.Ev
open Go.ChangeShapes Go.WideShapes Go.ChangeAt Go.RowKit

/-- a measure of data -/
structure Bulk {D : Type} (B : DataW D → Nat) : Prop where
  pos : ∀ d, 1 ≤ B d
  str : ∀ s, s.length + 1 ≤ B (.lit (.string s))
  slice : ∀ es sp, (es.map B).sum + 1 ≤ B (.slice es sp)
  agg : ∀ ds, (ds.map B).sum + 1 ≤ B (.agg ds)

/-- all that memory holds -/
def Claim.of (w : World) : Claim := fun b => w.heap[b]?
theorem Claim.of_holds (w : World) : (Claim.of w).holds w := fun _ _ h => h
theorem Claim.of_cell (w : World) (a : Addr) : (Claim.of w).cell? a = w.cell? a := by
  unfold Claim.cell? World.cell? Claim.of
  rfl

def Cx.shapeU (cx : Cx) (d : Nat) : TypeDesc → Sh
  | .int k => .int k
  | .bool => .bool
  | .string => .str
  | .slice _ => .slice
  | .pointer _ => .ptr
  | .chan _ _ => .chan
  | .struct fs => .agg (rowSh (fs.toList.map fun f => cx.shape d f.type))
  | .array n e => .agg (repSh (cx.shape d e) n)
  | _ => .unit

theorem Cx.shape_succ (cx : Cx) (d : Nat) (t : TypeId) : cx.shape (d + 1) t = cx.shapeU d (cx.under t) := rfl

def KnownFs (cx : Cx) (d : Nat) (K : (t : TypeId) → (cx.shape d t).den → Nat → Prop) : (fs : List Field) → (rowSh (fs.map fun f => cx.shape d f.type)).den → Nat → Prop
  | [], _, _ => True
  | [f], x, n => K f.type x n
  | f :: g :: l, x, n => ∃ a b, a + b ≤ n ∧ K f.type x.1 a ∧ KnownFs cx d K (g :: l) x.2 b

def KnownU (cx : Cx) (S : Claim) (d : Nat) (K : (t : TypeId) → (cx.shape d t).den → Nat → Prop) : (u : TypeDesc) → (cx.shapeU d u).den → Nat → Prop
  | .int k, x, n => (Lit.int k x).wf = true ∧ 1 ≤ n
  | .bool, _, n => 1 ≤ n
  | .string, s, n => ByteArray.size s ≤ maxLen ∧ ByteArray.size s + 1 ≤ n
  | .slice e, y, n => Sl.len y ≤ Sl.cap y ∧ Sl.cap y ≤ maxLen ∧ ∃ xs : List ((cx.shape d e).den × Nat), Rows S (cx.shape d e) y (xs.map (·.1)) ∧ (∀ x ∈ xs, 1 ≤ x.2 ∧ K e x.1 x.2) ∧ (xs.map (·.2)).sum + 1 ≤ n
  | .struct fs, x, n => KnownFs cx d K fs.toList x n
  | _, _, _ => False

/-- data of a type, and all that they lead to; n bounds what they hold together -/
def Known (cx : Cx) (S : Claim) : (d : Nat) → (t : TypeId) → (cx.shape d t).den → Nat → Prop
  | 0, _, _, _ => False
  | d + 1, t, x, n => KnownU cx S d (Known cx S d) (cx.under t) x n

theorem KnownFs.mono {cx : Cx} {d : Nat} {K : (t : TypeId) → (cx.shape d t).den → Nat → Prop} (hK : ∀ t (y : (cx.shape d t).den) a b, a ≤ b → K t y a → K t y b) :
    ∀ (fs : List Field) (y : (rowSh (fs.map fun f : Field => cx.shape d f.type)).den) {a b : Nat}, a ≤ b → KnownFs cx d K fs y a → KnownFs cx d K fs y b
  | [], _, _, _, _, _ => trivial
  | [_], _, _, _, hab, h => hK _ _ _ _ hab h
  | _ :: _ :: _, _, _, _, hab, ⟨p, q, h1, h2, h3⟩ => ⟨p, q, Nat.le_trans h1 hab, h2, h3⟩

theorem Known.mono {cx : Cx} {S : Claim} : ∀ (d : Nat) (t : TypeId) (y : (cx.shape d t).den) {a b : Nat}, a ≤ b → Known cx S d t y a → Known cx S d t y b
  | 0, _, _, _, _, _, h => h.elim
  | d + 1, t, y, a, b, hab, h => by
    have go : ∀ (u : TypeDesc) (y : (cx.shapeU d u).den), KnownU cx S d (Known cx S d) u y a → KnownU cx S d (Known cx S d) u y b := by
      intro u y h
      cases u with
      | int k => exact ⟨h.1, Nat.le_trans h.2 hab⟩
      | bool => exact Nat.le_trans h hab
      | string => exact ⟨h.1, Nat.le_trans h.2 hab⟩
      | slice e =>
        obtain ⟨h1, h2, xs, h3, h4, h5⟩ := h
        exact ⟨h1, h2, xs, h3, h4, Nat.le_trans h5 hab⟩
      | struct fs => exact KnownFs.mono (fun t y a b hab h => Known.mono d t y hab h) fs.toList y hab h
      | _ => exact h.elim
    exact go _ y h

def okFs (cx : Cx) (ok : TypeId → Bool) (d : Nat) : Nat → List Field → Bool
  | _, [] => true
  | o, f :: fs => Nat.beq f.offset o && (Nat.beq (cx.shape d f.type).size (cx.size f.type) && (ok f.type && okFs cx ok d (o + cx.size f.type) fs))

def okU (cx : Cx) (ok : TypeId → Bool) (d : Nat) (t : TypeId) : TypeDesc → Bool
  | .int _ => true
  | .bool => true
  | .string => true
  | .slice e => ok e && (Nat.beq (cx.shape d e).size (cx.size e) && Nat.blt 0 (cx.size e))
  | .struct fs => okFs cx ok d 0 fs.toList && Nat.beq (rowSh (fs.toList.map fun f => cx.shape d f.type)).size (cx.size t)
  | _ => false

/-- may a law take it? -/
def okT (cx : Cx) : Nat → TypeId → Bool
  | 0, _ => false
  | d + 1, t => okU cx (okT cx d) d t (cx.under t)

theorem exists_list {α : Type} {p : Nat → α → Prop} : ∀ (n : Nat), (∀ i, i < n → ∃ x, p i x) → ∃ l : List α, l.length = n ∧ ∀ i x, l[i]? = some x → p i x
  | 0, _ => ⟨[], rfl, fun i x h => by simp at h⟩
  | n + 1, h => by
    obtain ⟨l, h1, h2⟩ := exists_list n fun i hi => h i (by omega)
    obtain ⟨x, hx⟩ := h n (by omega)
    refine ⟨l ++ [x], by simp [h1], fun i y hy => ?_⟩
    by_cases hi : i < l.length
    · rw [List.getElem?_append_left hi] at hy; exact h2 i y hy
    · rw [List.getElem?_append_right (by omega)] at hy
      have : i - l.length = 0 := by
        cases hk : i - l.length with
        | zero => rfl
        | succ k => rw [hk] at hy; simp at hy
      rw [this] at hy
      have e : x = y := by simpa using hy
      subst e
      have : i = n := by omega
      rw [this]; exact hx

theorem at_of_elems {S : Claim} {sh : Sh} : ∀ {xs : List sh.den} {a : Addr}, (∀ (j : Nat) (x : sh.den), xs[j]? = some x → S.at (a.add (j * sh.size)) (sh.flat x)) → S.at a (xs.flatMap sh.flat)
  | [], a, h => fun i v e => by simp at e
  | y :: ys, a, h => by
    rw [List.flatMap_cons, Claim.at_append, Sh.flat_length]
    refine ⟨?_, at_of_elems fun j x e => ?_⟩
    · have := h 0 y rfl
      rwa [Nat.zero_mul, Addr.add_zero] at this
    · have := h (j + 1) x (by simpa using e)
      rw [Addr.add_add]
      rwa [show (j + 1) * sh.size = sh.size + j * sh.size from by rw [Nat.add_mul]; omega] at this

section
variable {D : Type} {enc : TypeId × Value → D} {cx : Cx} {w : World} {B : DataW D → Nat}

theorem known_fs (hB : Bulk B) {d : Nat} {ok : TypeId → Bool} (n : Nat)
    (ih : ∀ t, ok t = true → ∀ cs x, DataW.trod enc cx.P w 0 (fun _ => true) true n t cs = some x → ∃ y : (cx.shape d t).den, cs = (cx.shape d t).flat y ∧ Known cx (Claim.of w) d t y (B x.1)) :
    ∀ (fs : List Field) (xs : List (DataW D × List MemPlace)) (o : Nat) (cs : List Value), okFs cx ok d o fs = true → xs.length = fs.length → cs.length = o + (rowSh (fs.map fun f : Field => cx.shape d f.type)).size →
      (∀ (i : Nat) (f : Field), fs[i]? = some f → DataW.trod enc cx.P w 0 (fun _ => true) true n f.type ((cs.drop f.offset).take (cx.P.cellsOf f.type)) = xs[i]?) →
      ∃ y : (rowSh (fs.map fun f : Field => cx.shape d f.type)).den, cs.drop o = (rowSh (fs.map fun f : Field => cx.shape d f.type)).flat y ∧ KnownFs cx d (Known cx (Claim.of w) d) fs y ((xs.map fun x => B x.1).sum)
  | [], xs, o, cs, hok, hl, hc, h => by
    refine ⟨(), ?_, trivial⟩
    have hc' : cs.length = o + 0 := hc
    show _ = []
    exact List.drop_eq_nil_of_le (by omega)
  | [f], xs, o, cs, hok, hl, hc, h => by
    simp only [okFs, Bool.and_eq_true, Nat.beq_eq] at hok
    obtain ⟨ho, hs, hk, _⟩ := hok
    obtain ⟨x, rfl⟩ : ∃ x, xs = [x] := by
      match xs, hl with
      | [x], _ => exact ⟨x, rfl⟩
    have h0 := h 0 f rfl
    rw [ho] at h0
    have hc' : cs.length = o + (cx.shape d f.type).size := hc
    have e : (cs.drop o).take (cx.P.cellsOf f.type) = cs.drop o := by
      refine List.take_of_length_le ?_
      have : cx.size f.type = cx.P.cellsOf f.type := rfl
      rw [List.length_drop]; omega
    rw [e] at h0
    obtain ⟨y, h1, h2⟩ := ih f.type hk _ x h0
    refine ⟨y, h1, ?_⟩
    show Known cx (Claim.of w) d f.type y (([x].map fun x => B x.1).sum)
    simpa using h2
  | f :: g :: fs, xs, o, cs, hok, hl, hc, h => by
    rw [okFs] at hok
    simp only [Bool.and_eq_true, Nat.beq_eq] at hok
    obtain ⟨ho, hs, hk, hrest⟩ := hok
    obtain ⟨x, xs', rfl⟩ : ∃ x xs', xs = x :: xs' := by
      match xs, hl with
      | x :: xs', _ => exact ⟨x, xs', rfl⟩
    have hc' : cs.length = o + ((cx.shape d f.type).size + (rowSh ((g :: fs).map fun f : Field => cx.shape d f.type)).size) := hc
    have hsz : cx.size f.type = cx.P.cellsOf f.type := rfl
    have h0 := h 0 f rfl
    rw [ho] at h0
    obtain ⟨y, h1, h2⟩ := ih f.type hk _ x h0
    obtain ⟨z, h3, h4⟩ := known_fs hB n ih (g :: fs) xs' (o + cx.size f.type) cs hrest (by simpa using hl) (by omega) fun i f' hf => by
      have := h (i + 1) f' (by simpa using hf)
      simpa using this
    refine ⟨(y, z), ?_, B x.1, (xs'.map fun x => B x.1).sum, by simp, h2, h4⟩
    show cs.drop o = (cx.shape d f.type).flat y ++ (rowSh ((g :: fs).map fun f : Field => cx.shape d f.type)).flat z
    rw [← h1, ← h3, ← hsz, ← List.drop_drop, List.take_append_drop]

theorem known_of (hB : Bulk B) : ∀ (d : Nat) (t : TypeId), okT cx d t = true → ∀ (fuel : Nat) (cs : List Value) (x : DataW D × List MemPlace), DataW.trod enc cx.P w 0 (fun _ => true) true fuel t cs = some x →
    ∃ y : (cx.shape d t).den, cs = (cx.shape d t).flat y ∧ Known cx (Claim.of w) d t y (B x.1)
  | 0, t, h, _, _, _, _ => by cases h
  | d + 1, t, h, fuel, cs, x, hx => by
    have key : ∀ u, cx.under t = u → okU cx (okT cx d) d t u = true → ∃ y : (cx.shapeU d u).den, cs = (cx.shapeU d u).flat y ∧ KnownU cx (Claim.of w) d (Known cx (Claim.of w) d) u y (B x.1) := by
      intro u hu hok
      unfold okU at hok
      split at hok
      · rename_i k
        obtain ⟨n, rfl, rfl, hw⟩ := DataW.trod_int (under_some hu (by simp)) hx
        exact ⟨n, rfl, hw, hB.pos _⟩
      · obtain ⟨b, rfl, rfl⟩ := DataW.trod_bool (under_some hu (by simp)) hx
        exact ⟨b, rfl, hB.pos _⟩
      · obtain ⟨s, rfl, rfl, hs⟩ := DataW.trod_string (under_some hu (by simp)) hx
        refine ⟨s, rfl, hs, ?_⟩
        have := hB.str s.data.toList
        rw [Array.length_toList] at this
        exact this
      · rename_i e
        simp only [Bool.and_eq_true, Nat.beq_eq, Nat.blt_eq] at hok
        obtain ⟨hk, hs, hpos⟩ := hok
        have hsz : cx.size e = cx.P.cellsOf e := rfl
        rcases Deep.open_slice (under_some hu (by simp)) hx with ⟨rfl, rfl⟩ | ⟨a, len, cap, m, n, Dt, Pl, rfl, hb, hl, hm, hmm, rfl, hel⟩
        · refine ⟨⟨none, 0, 0⟩, rfl, Nat.le_refl _, Nat.zero_le _, [], ⟨rfl, Nat.zero_le _, fun h => absurd rfl h⟩, fun _ h => (by cases h), ?_⟩
          exact hB.pos _
        · have hmc : m = cap := by simpa using hmm
          subst hmc
          obtain ⟨l, hl1, hl2⟩ := exists_list (α := (cx.shape d e).den × Nat) (p := fun i z => z.2 = B (Dt i) ∧ (Claim.of w).at (a.add (i * (cx.shape d e).size)) ((cx.shape d e).flat z.1) ∧ Known cx (Claim.of w) d e z.1 z.2) len fun i hi => by
            obtain ⟨cs', h1, h2⟩ := hel i (by omega)
            obtain ⟨y, rfl, hy⟩ := known_of hB d e hk _ _ _ h2
            refine ⟨(y, B (Dt i)), rfl, ?_, hy⟩
            obtain ⟨_, h3, h4⟩ := World.cells?_some h1
            intro j v hv
            rw [Claim.of_cell, hs]
            have hj : j < cx.P.cellsOf e := by rw [← h3]; exact (List.getElem?_eq_some_iff.1 hv).1
            have := h4 j hj
            rw [hsz]
            exact this.trans hv
          refine ⟨⟨some a, len, m⟩, rfl, hl, hm, l, ⟨by simp [hl1], by show len ≤ maxLen; omega, fun _ => ⟨a, rfl, at_of_elems fun j z hz => ?_⟩⟩, fun z hz => ?_, ?_⟩
          · rw [List.getElem?_map] at hz
            obtain ⟨z', hz', rfl⟩ := Option.map_eq_some_iff.1 hz
            exact (hl2 j z' hz').2.1
          · obtain ⟨i, hi⟩ := List.getElem?_of_mem hz
            exact ⟨by rw [(hl2 i z hi).1]; exact hB.pos _, (hl2 i z hi).2.2⟩
          · have e1 : l.map (·.2) = ((List.range len).map Dt).map B := by
              refine List.ext_getElem? fun i => ?_
              rw [List.getElem?_map, List.getElem?_map, List.getElem?_map]
              by_cases hi : i < len
              · have hi' : i < l.length := by omega
                rw [List.getElem?_eq_getElem hi', List.getElem?_range hi]
                simp only [Option.map_some]
                rw [(hl2 i _ (List.getElem?_eq_getElem hi')).1]
              · rw [List.getElem?_eq_none (by omega), List.getElem?_eq_none (by simpa using hi)]
                rfl
            rw [e1]
            exact hB.slice _ _
      · rename_i fs
        simp only [Bool.and_eq_true, Nat.beq_eq] at hok
        obtain ⟨xs, n, rfl, rfl, hlen, hxs, hf⟩ := DataW.trod_struct (under_some hu (by simp)) hx
        have hsz : cx.size t = cx.P.cellsOf t := rfl
        obtain ⟨y, h1, h2⟩ := known_fs hB n (fun t ht cs x hx => known_of hB d t ht n cs x hx) fs.toList xs 0 cs hok.1 (by simpa using hxs) (by rw [Nat.zero_add]; omega) fun i f hfi => hf i f (by simpa using hfi)
        rw [List.drop_zero] at h1
        refine ⟨y, h1, ?_⟩
        have hb := hB.agg (xs.map (·.1))
        rw [List.map_map] at hb
        refine KnownFs.mono (fun t y a b hab h => Known.mono d t y hab h) fs.toList y ?_ h2
        have e2 : (B ∘ fun x : DataW D × List MemPlace => x.1) = fun x => B x.1 := rfl
        rw [e2] at hb
        show (xs.map fun x => B x.1).sum ≤ B (DataW.agg (xs.map (·.1)))
        omega
      · cases hok
    exact key _ rfl h
end

end Go.Ev
namespace Go.Ev
open Go.ChangeShapes Go.WideShapes Go.ChangeAt Go.RowKit

section
variable {D : Type} {enc : TypeId × Value → D} {cx : Cx} {w : World} {B : DataW D → Nat}

theorem enc_of_flat {d : Nat} {t : TypeId} {r : Reach} {b0 : Nat} {v : Value} (hok : okT cx (d + 1) t = true) (hval : Value.okWide cx.P w r b0 t v) (y : (cx.shape (d + 1) t).den) (h : v.cells.toList = (cx.shape (d + 1) t).flat y) : v = (cx.shape (d + 1) t).enc y := by
  have key : ∀ u, cx.under t = u → okU cx (okT cx d) d t u = true → ∀ y : (cx.shapeU d u).den, v.cells.toList = (cx.shapeU d u).flat y → v = (cx.shapeU d u).enc y := by
    intro u hu hok y h
    unfold okU at hok
    split at hok
    · obtain ⟨n, rfl⟩ := okWide_int (under_some hu (by simp)) hval
      have h' : [Value.int _ n] = [Value.int _ y] := h
      exact (List.cons.inj h').1
    · obtain ⟨n, rfl⟩ := okWide_bool (under_some hu (by simp)) hval
      have h' : [Value.bool n] = [Value.bool y] := h
      exact (List.cons.inj h').1
    · obtain ⟨n, rfl⟩ := okWide_string (under_some hu (by simp)) hval
      have h' : [Value.string n] = [Value.string y] := h
      exact (List.cons.inj h').1
    · obtain ⟨a, len, cap, rfl⟩ := okWide_slice (under_some hu (by simp)) hval
      have h' : [Value.slice a len cap] = [Value.slice (Sl.a y) (Sl.len y) (Sl.cap y)] := h
      exact (List.cons.inj h').1
    · rename_i fs
      obtain ⟨cs, rfl, _⟩ := okWide_struct (under_some hu (by simp)) hval
      have h' : cs.toList = (rowSh (fs.toList.map fun f : Field => cx.shape d f.type)).flat y := h
      show Value.agg cs = Value.agg ((rowSh (fs.toList.map fun f : Field => cx.shape d f.type)).flat y).toArray
      rw [← h']
    · cases hok
  exact key _ rfl hok y h

/-- an argument: its data, and all that they lead to -/
theorem known_arg (hB : Bulk B) {t : TypeId} {r : Reach} {b0 : Nat} {v : Value} {d : DataW D} {ps : List MemPlace} (hok : okT cx 12 t = true) (hval : Value.okWide cx.P w r b0 t v) (h : DataW.Trod enc cx.P w 0 (fun _ => true) true t v d ps) :
    ∃ y : (cx.shp t).den, v = (cx.shp t).enc y ∧ Known cx (Claim.of w) 12 t y (B d) := by
  obtain ⟨fuel, hf⟩ := h
  obtain ⟨y, h1, h2⟩ := known_of hB 12 t hok fuel _ _ hf
  exact ⟨y, enc_of_flat hok hval y h1, h2⟩

theorem sum_ge {α : Type} {f : α → Nat} : ∀ {l : List α}, (∀ x ∈ l, 1 ≤ f x) → l.length ≤ (l.map f).sum
  | [], _ => Nat.le_refl _
  | x :: l, h => by
    have h1 := h x (by simp)
    have h2 := sum_ge (l := l) fun y hy => h y (by simp [hy])
    simp only [List.length_cons, List.map_cons, List.sum_cons]
    omega

/-- an argument that is a row -/
theorem known_row {S : Claim} {d : Nat} {t e : TypeId} {v : Value} {n : Nat} (hu : cx.under t = .slice e) (h : ∃ y : (cx.shape (d + 1) t).den, v = (cx.shape (d + 1) t).enc y ∧ Known cx S (d + 1) t y n) :
    ∃ (s : Sl) (xs : List (cx.shape d e).den), v = .slice s.a s.len s.cap ∧ s.len ≤ s.cap ∧ s.cap ≤ maxLen ∧ Rows S (cx.shape d e) s xs ∧ xs.length + 1 ≤ n := by
  have key : ∀ u, u = .slice e → (∃ y : (cx.shapeU d u).den, v = (cx.shapeU d u).enc y ∧ KnownU cx S d (Known cx S d) u y n) → ∃ (s : Sl) (xs : List (cx.shape d e).den), v = .slice s.a s.len s.cap ∧ s.len ≤ s.cap ∧ s.cap ≤ maxLen ∧ Rows S (cx.shape d e) s xs ∧ xs.length + 1 ≤ n := by
    rintro u rfl ⟨y, h1, h2, h3, xs, h4, h5, h6⟩
    refine ⟨y, xs.map (·.1), h1, h2, h3, h4, ?_⟩
    have := sum_ge (f := fun x : (cx.shape d e).den × Nat => x.2) fun x hx => (h5 x hx).1
    rw [List.length_map]
    omega
  exact key _ hu h

theorem trodAll_carry {w' : World} {base : Nat} {sp : Nat → Bool} {held : Bool} : ∀ {ts : List TypeId} {vs : List Value} {ds : List (DataW D)} {ps : List MemPlace},
    DataW.TrodAll enc cx.P w base sp held ts vs ds ps → (∀ p ∈ ps, w.sameAt w' p) → DataW.TrodAll enc cx.P w' base sp held ts vs ds ps
  | [], [], [], _, h, _ => h
  | _ :: _, _ :: _, _ :: _, _, ⟨p, q, ⟨n, h1⟩, h2, e⟩, hs => ⟨p, q, ⟨n, DataW.trod_carry n _ _ _ h1 (fun x hx => hs x (by rw [e]; exact List.mem_append_left _ hx))⟩, trodAll_carry h2 (fun x hx => hs x (by rw [e]; exact List.mem_append_right _ hx)), e⟩

/-- the answer is true, and all is as it was -/
theorem law_post {fn : Func} {s : ChangeSpec} {apart fresh handsOn again : Bool} {W W' : World} {args : Array Value} {ds gs : List (DataW D)} {before : List MemPlace} {tb : TypeId}
    (K : Kids cx.P (· < cx.P.types.size)) (full : ∀ t e, t < cx.P.types.size → cx.P.underlying t = some (.slice e) → 0 < cx.P.cellsOf e) (hp : ∀ t ∈ fn.params.toList, t < cx.P.types.size) (hv : s.vars = [])
    (hres : fn.resultTypes = #[tb]) (htb : cx.P.underlying tb = some .bool) (hW : DataW.Whole enc cx.P fn.params.toList s.vars apart W args.toList ds gs before)
    (hspec : s.fn D (ds ++ gs) = { results := [.lit (.bool true)], args := ds }) (hb : Below W.heap.size W W') : s.post enc cx.P fn apart fresh handsOn again W args (.bool true) W' := by
  have hW' := hW
  obtain ⟨p, q, hA, hV, rfl, hfz, hnd⟩ := hW
  rw [hv] at hV
  obtain ⟨rfl, rfl⟩ := trodVars_none hV
  have hlt := DataW.TrodAll.lt hA
  have hA2 := trodAll_carry hA fun x hx => hb.same (hlt x hx)
  have hresT : ∀ (b : Nat) (sp : Nat → Bool) (hd : Bool), DataW.TrodAll enc cx.P W' b sp hd fn.resultTypes.toList ((Value.bool true).resultList fn.resultTypes.size) (s.fn D (ds ++ [])).results [] := by
    intro b sp hd
    rw [hspec, hres]
    exact trodAll_mk1 (shut_bool htb true)
  have hargs : ∀ sp : Nat → Bool, (∀ x ∈ p ++ [], sp x.block = true) → DataW.TrodAll enc cx.P W' 0 sp true fn.params.toList args.toList (s.fn D (ds ++ [])).args p := by
    intro sp hsp
    rw [hspec]
    exact DataW.TrodAll.respare K full hp hA2 (fun x hx => hsp x (List.mem_append_left _ hx))
  have hvars : ∀ sp : Nat → Bool, DataW.TrodVars enc cx.P W' sp s.vars (s.fn D (ds ++ [])).vars [] := by
    intro sp
    rw [hspec, hv]
    exact rfl
  have hold : ∀ x ∈ p ++ [], (fun b => decide (b < W.heap.size)) x.block = true := fun x hx => by simpa using hW'.lt x hx
  refine ⟨ds, [], p ++ [], [], p, [], hW', hresT _ _ _, hargs _ hold, hvars _, World.keptBut_mono (fun x hx => ⟨hx, ?_⟩) (hb.frame (· ∈ p ++ [])), fun _ => ?_⟩
  · rw [List.mem_append] at hx
    exact Or.inr hx
  · refine ⟨?_, _, _, ([] ++ p) ++ [], ⟨[] ++ p, [], trodAll_append (hargs _ (fun _ _ => rfl)) (hresT _ _ _), hvars _, rfl, ?_, ?_⟩, ?_⟩
    · rw [hres]
      intro j t r h1 h2
      match j with
      | 0 =>
        have e1 : tb = t := by simpa using h1
        have e2 : Value.bool true = r := by simpa [Value.resultList] using h2
        subst e1 e2
        exact okWide_bool_mk htb true
      | j + 1 => simp at h1
    · intro b off hp'
      have hp2 : MemPlace.cell b off ∈ p := by simpa using hp'
      rw [hb.frozen (p := ⟨b, off, none⟩) (hlt _ hp2)]
      exact hfz b off (by simpa using hp2)
    · intro ha
      simpa using hnd ha
    · intro x hx _
      simpa using hx

/-- a law's call, out of its contract -/
theorem law_calls {f : FuncId} {args : List Value} {W : World} (h : CallAt cx.P f args (Claim.of W) Claim.none .bool fun r _ _ => r = true) :
    Calls cx.P f args.toArray W fun e W' => e = .returned (.bool true) ∧ Below W.heap.size W W' := by
  refine (h W (Claim.of_holds W) (Claim.none_holds W) (Claim.disj_none _) fun _ _ e => by cases e).mono ?_
  rintro e c' ⟨r, G', H', rfl, i, rfl⟩
  exact ⟨rfl, i.to_below⟩
end
end Go.Ev

/-! ### rules, where the arguments stand in other words -/
namespace Go.Ev
section
variable {P : Program} {E : Env} {G H : Claim} {Q : Value → Claim → Claim → Prop}
theorem wp_call_at {f : FuncId} {args args' : List Value} {sh : Sh} {k : sh.den → T} {R : sh.den → Claim → Claim → Prop} (hp : CallAt P f args' G H sh R) (e : args = args')
    (h : ∀ r G' H', G.le G' → G'.disj H' → R r G' H' → (k r).wp P E G' H' Q) : (T.call f args sh k).wp P E G H Q := by subst e; exact wp_call hp h
theorem wp_dcall_at {b : Bool} {f : FuncId} {args args' : List Value} {sh : Sh} {k : sh.den → T} {r : sh.den} (hp : PureAt P f args' (G.and H) sh r) (e : args = args') (h : (k r).wp P E G H Q) : (T.dcall b f args sh k).wp P E G H Q := by subst e; exact wp_dcall hp h
theorem PureAt.eq {f : FuncId} {args : List Value} {S : Claim} {sh : Sh} {r r' : sh.den} (h : PureAt P f args S sh r) (e : r = r') : PureAt P f args S sh r' := e ▸ h
/-- what is owned at a place may be known for good -/
theorem wp_freeze_call_at {f : FuncId} {args args' : List Value} {sh : Sh} {k : sh.den → T} {R : sh.den → Claim → Claim → Prop} {n : Nat} {o : Obj} (hd : G.disj H) (hn : H n = some o)
    (hp : CallAt P f args' (G.upd n o) (H.del n) sh R) (e : args = args') (h : ∀ r G' H', (G.upd n o).le G' → G'.disj H' → R r G' H' → (k r).wp P E G' H' Q) : (T.call f args sh k).wp P E G H Q := by
  subst e
  refine ⟨fun r G' H' => R r G' H' ∧ (G.upd n o).le G', ?_, fun r G' H' _ d hR => h r G' H' hR.2 d hR.1⟩
  intro c hg hh hd' hm
  have F := Frz.of hd n hn
  have hg' : (G.upd n o).holds c := by
    intro b o' e
    rcases F.sub b o' e with e | e
    · exact hg b o' e
    · exact hh b o' e
  refine (hp c hg' (fun b o e => hh b o (F.hle b o e)) F.disj (fun b o e => hm b o (F.hle b o e))).mono ?_
  rintro e c' ⟨r, G2, H2, rfl, i, hR⟩
  exact ⟨r, G2, H2, rfl, F.inv i, hR, i.mono⟩
end
end Go.Ev
