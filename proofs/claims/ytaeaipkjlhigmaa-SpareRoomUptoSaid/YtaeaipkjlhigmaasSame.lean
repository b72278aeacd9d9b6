/- What only computes: comparisons, loads, the node. -/
import Derived.Test.YtaeaipkjlhigmaasView
import Derived.Test.YtaeaipkjlhigmaasTree28
namespace Go.Ev.Spare
open Go Go.Ev Go.Proofs

/-- the same rows? -/
def sameT (sh : Sh) (z : Nat) (x0 x1 : Sl) : T :=
 .cond ((↑x0.len : Int) != (↑x1.len : Int)) (
  .ret (.bool false)) (
  .loop (.pair (.int .i64) .unit) ((0 : Int), ()) <| fun (v0 : (Int × Unit)) =>
   .cond (decide (v0.1 < (↑x0.len : Int))) (
    .must (true = true → (0 : Int) ≤ v0.1 ∧ v0.1 < (↑x0.len : Int) ∧ x0.a.isSome = true) <|
    .load (true) sh ((x0.a.getD { block := 0, off := 0 }).add (v0.1.toNat * z)) <| fun m1 =>
     .must (true = true → (0 : Int) ≤ v0.1 ∧ v0.1 < (↑x1.len : Int) ∧ x1.a.isSome = true) <|
     .load (true) sh ((x1.a.getD { block := 0, off := 0 }).add (v0.1.toNat * z)) <| fun m2 =>
      .cond (!eqDen sh m1 m2) (
       .pop <|
       .ret (.bool false)) (
       .again (.pair (.int .i64) .unit) (IntKind.i64.wrap (v0.1 + (1 : Int)), ()))) (
    .pop <|
    .ret (.bool true)))

def sameRow (sh : Sh) : List sh.den → List sh.den → Bool
  | [], [] => true
  | x :: xs, y :: ys => eqDen sh x y && sameRow sh xs ys
  | _, _ => false
theorem sameRow_refl {sh : Sh} (hp : sh.plain = true) : ∀ xs : List sh.den, sameRow sh xs xs = true
  | [] => rfl
  | x :: xs => by unfold sameRow; rw [(eqDen_iff hp).2 rfl, sameRow_refl hp xs]; rfl
theorem sameRow_len {sh : Sh} : ∀ {xs ys : List sh.den}, xs.length ≠ ys.length → sameRow sh xs ys = false
  | [], [], h => absurd rfl h
  | x :: xs, y :: ys, h => by unfold sameRow; rw [sameRow_len (xs := xs) (ys := ys) (by simpa using h), Bool.and_false]
  | [], _ :: _, _ => rfl
  | _ :: _, [], _ => rfl
theorem sameRow_no {sh : Sh} : ∀ {xs ys : List sh.den} {i : Nat} {x y : sh.den}, xs[i]? = some x → ys[i]? = some y → eqDen sh x y = false → sameRow sh xs ys = false
  | x' :: xs, y' :: ys, 0, x, y, h1, h2, h => by
    have e1 : x' = x := by simpa using h1
    have e2 : y' = y := by simpa using h2
    subst e1 e2
    unfold sameRow; rw [h]; rfl
  | x' :: xs, y' :: ys, i + 1, x, y, h1, h2, h => by
    unfold sameRow; rw [sameRow_no (i := i) (by simpa using h1) (by simpa using h2) h, Bool.and_false]
  | [], _, _, _, _, h1, _, _ => by simp at h1
  | _ :: _, [], _, _, _, _, h2, _ => by simp at h2
theorem sameRow_yes {sh : Sh} : ∀ {xs ys : List sh.den}, xs.length = ys.length → (∀ (i : Nat) (x y : sh.den), xs[i]? = some x → ys[i]? = some y → eqDen sh x y = true) → sameRow sh xs ys = true
  | [], [], _, _ => rfl
  | x :: xs, y :: ys, hl, h => by
    unfold sameRow
    rw [h 0 x y rfl rfl, sameRow_yes (xs := xs) (ys := ys) (by simpa using hl) fun i a b ha hb => h (i + 1) a b (by simpa using ha) (by simpa using hb)]
    rfl
  | [], _ :: _, hl, _ => by simp at hl
  | _ :: _, [], hl, _ => by simp at hl

variable {S : Claim}
theorem same_wp {sh : Sh} {z : Nat} (hz : sh.size = z) {s t : Sl} {xs ys : List sh.den} (hs : Rows S sh s xs) (ht : Rows S sh t ys) :
    (sameT sh z s t).wp cx.P [] S Claim.none (fun v _ _ => v = Sh.bool.enc (sameRow sh xs ys)) := by
  subst hz
  have l1 : s.len = xs.length := hs.len
  have l2 : t.len = ys.length := ht.len
  refine wp_cond (fun hc => wp_ret ?_) (fun hc => ?_)
  · have hne : xs.length ≠ ys.length := by
      intro h
      rw [l1, l2, h] at hc
      simp at hc
    rw [sameRow_len hne]
    rfl
  · have hll : xs.length = ys.length := by
      simp only [bne_eq_false_iff_eq] at hc
      omega
    refine wp_each hs.small (fun i => ∀ x y, xs[i]? = some x → ys[i]? = some y → eqDen sh x y = true) ?_ ?_
    · intro i G' H' J hle hd hc hbef hJ
      have hrow := hs.and hle hd
      have hrow2 := ht.and hle hd
      have hc2 : (i : Int) < (t.len : Int) := by omega
      obtain ⟨x, (hx : xs[i]? = some x), hat⟩ := hrow.get (j := (i : Int)) (by omega) hc
      obtain ⟨y, (hy : ys[i]? = some y), hat2⟩ := hrow2.get (j := (i : Int)) (by omega) hc2
      refine wp_must (fun _ => ⟨by omega, hc, hrow.some (by omega) hc⟩) (wp_load (r := x) (fun _ => hat) (wp_must (fun _ => ⟨by omega, hc2, hrow2.some (by omega) hc2⟩) (wp_load (r := y) (fun _ => hat2) ?_)))
      refine wp_cond (fun hq => wp_pop (wp_ret ?_)) (fun hq => wp_again (hJ (fun a b ha hb => ?_) _ _))
      · have hq' : eqDen sh x y = false := by simpa using hq
        rw [sameRow_no hx hy hq']
        rfl
      · have e1 : x = a := by rw [hx] at ha; exact Option.some.inj ha
        have e2 : y = b := by rw [hy] at hb; exact Option.some.inj hb
        subst e1 e2
        simpa using hq
    · intro G' H' J hle hd hall
      refine wp_pop (wp_ret ?_)
      rw [sameRow_yes hll fun i x y hx hy => hall i (by rw [l1]; exact (List.getElem?_eq_some_iff.1 hx).1) x y hx hy]
      rfl

theorem p11 {s t : Sl} {xs ys : List D69} (hs : Rows S S69 s xs) (ht : Rows S S69 t ys) : PureAt cx.P 11 [.slice s.a s.len s.cap, .slice t.a t.len t.cap] S .bool (sameRow S69 xs ys) :=
  pure_of ok Try.func11 (T11_eq s t) (same_wp (sh := S69) (z := 2) rfl hs ht)
theorem p29 {s t : Sl} {xs ys : List D85} (hs : Rows S S85 s xs) (ht : Rows S S85 t ys) : PureAt cx.P 29 [.slice s.a s.len s.cap, .slice t.a t.len t.cap] S .bool (sameRow S85 xs ys) :=
  pure_of ok Try.func29 (T29_eq s t) (same_wp (sh := S85) (z := 2) rfl hs ht)
theorem p30 {s t : Sl} {xs ys : List D90} (hs : Rows S S90 s xs) (ht : Rows S S90 t ys) : PureAt cx.P 30 [.slice s.a s.len s.cap, .slice t.a t.len t.cap] S .bool (sameRow S90 xs ys) :=
  pure_of ok Try.func30 (T30_eq s t) (same_wp (sh := S90) (z := 5) rfl hs ht)
theorem p31 {s t : Sl} {xs ys : List D49} (hs : Rows S S49 s xs) (ht : Rows S S49 t ys) : PureAt cx.P 31 [.slice s.a s.len s.cap, .slice t.a t.len t.cap] S .bool (sameRow S49 xs ys) :=
  pure_of ok Try.func31 (T31_eq s t) (same_wp (sh := S49) (z := 9) rfl hs ht)
theorem p44 {s t : Sl} {xs ys : List D82} (hs : Rows S S82 s xs) (ht : Rows S S82 t ys) : PureAt cx.P 44 [.slice s.a s.len s.cap, .slice t.a t.len t.cap] S .bool (sameRow S82 xs ys) :=
  pure_of ok Try.func44 (T44_eq s t) (same_wp (sh := S82) (z := 2) rfl hs ht)

/-- the same sites, but for where their backs lie -/
def sameAs (cs ds : List Site) : Prop := cs.map (fun p => (p.1.1, p.1.2.1, p.1.2.2.1, p.2)) = ds.map (fun p => (p.1.1, p.1.2.1, p.1.2.2.1, p.2))

theorem p28 {c d : D23} {cs ds : List Site} (hs : KCfg S c cs) (ht : KCfg S d ds) (hv : c.1 = d.1) (he : sameAs cs ds) : PureAt cx.P 28 [S23.enc c, S23.enc d] S .bool true := by
  have l1 := hs.len
  have l2 := ht.len
  have hll : cs.length = ds.length := by have := congrArg List.length he; simpa using this
  have hlen : (c.2.len : Int) = (d.2.len : Int) := by omega
  refine pure_of ok Try.func28 (T28_eq c d) (wp_cond (fun hc => ?_) (fun _ => ?_))
  · rw [hv, hlen] at hc
    simp at hc
  refine wp_each hs.row.small (fun _ => True) ?_ ?_
  · intro i G' H' J hle hd hc hbef hJ
    have hrow := hs.and hle hd
    have hrow2 := ht.and hle hd
    have hc2 : (i : Int) < (d.2.len : Int) := by omega
    obtain ⟨p, (hp : cs[i]? = some p), hat, hkid⟩ := hrow.get (j := (i : Int)) (by omega) hc
    obtain ⟨q, (hq : ds[i]? = some q), hat2, hkid2⟩ := hrow2.get (j := (i : Int)) (by omega) hc2
    have e : (p.1.1, p.1.2.1, p.1.2.2.1, p.2) = (q.1.1, q.1.2.1, q.1.2.2.1, q.2) := by
      have := congrArg (fun l => l[i]?) he
      simp only [List.getElem?_map, hp, hq, Option.map_some] at this
      exact Option.some.inj this
    have e1 : p.1.1 = q.1.1 := congrArg (·.1) e
    have e2 : p.1.2.1 = q.1.2.1 := congrArg (·.2.1) e
    have e3 : p.1.2.2.1 = q.1.2.2.1 := congrArg (·.2.2.1) e
    have e4 : p.2 = q.2 := congrArg (·.2.2.2) e
    have s1 := hrow.row.some (j := (i : Int)) (by omega) hc
    have s2 := hrow2.row.some (j := (i : Int)) (by omega) hc2
    have hcall : PureAt cx.P 44 [.slice p.1.2.2.2.a p.1.2.2.2.len p.1.2.2.2.cap, .slice q.1.2.2.2.a q.1.2.2.2.len q.1.2.2.2.cap] (G'.and H') .bool true := by
      exact (p44 hkid hkid2).eq (by rw [e4]; exact sameRow_refl (sh := S82) (by decide) q.2)
    have last : ∀ {t1 t2 : T}, t2.wp cx.P (headJ (.pair (.int .i64) .unit) J :: []) G' H' (fun v _ _ => v = Sh.bool.enc true) →
        (T.dcall (!bif bif p.1.1 != q.1.1 then true else !p.1.2.1 == q.1.2.1 then true else p.1.2.2.1 != q.1.2.2.1) 44 [.slice p.1.2.2.2.a p.1.2.2.2.len p.1.2.2.2.cap, .slice q.1.2.2.2.a q.1.2.2.2.len q.1.2.2.2.cap] .bool fun (r3 : Bool) =>
          .cond (bif bif bif p.1.1 != q.1.1 then true else !p.1.2.1 == q.1.2.1 then true else p.1.2.2.1 != q.1.2.2.1 then true else !r3) t1 t2).wp cx.P (headJ (.pair (.int .i64) .unit) J :: []) G' H' (fun v _ _ => v = Sh.bool.enc true) := by
      intro t1 t2 h
      refine wp_dcall hcall (wp_cond (fun hc => ?_) (fun _ => h))
      rw [e1, e2, e3] at hc
      simp at hc
    have nx : (T.again (.pair (.int .i64) .unit) (IntKind.i64.wrap ((i : Int) + 1), ())).wp cx.P (headJ (.pair (.int .i64) .unit) J :: []) G' H' (fun v _ _ => v = Sh.bool.enc true) := wp_again (hJ trivial _ _)
    refine wp_must (fun _ => ⟨by omega, hc, s1⟩) (wp_load (r := p.1) (fun _ => hat) ?_)
    have ld : ∀ {k : D52 → T}, (k q.1).wp cx.P (headJ (.pair (.int .i64) .unit) J :: []) G' H' (fun v _ _ => v = Sh.bool.enc true) →
        (T.must (true = true → (0 : Int) ≤ (i : Int) ∧ (i : Int) < (↑d.2.len : Int) ∧ d.2.a.isSome = true) <| .load (true) S52 ((d.2.a.getD { block := 0, off := 0 }).add ((i : Int).toNat * 4)) k).wp cx.P (headJ (.pair (.int .i64) .unit) J :: []) G' H' (fun v _ _ => v = Sh.bool.enc true) :=
      fun h => wp_must (fun _ => ⟨by omega, hc2, s2⟩) (wp_load (r := q.1) (fun _ => hat2) h)
    have l := last (t1 := .pop <| .ret (.bool false)) nx
    exact wp_both (ld (wp_both l l)) (wp_both (wp_both (ld l) (wp_both (ld l) (ld l))) (wp_both (ld l) (wp_both (ld l) (ld l))))
  · intro G' H' J hle hd hall
    exact wp_pop (wp_ret rfl)
end Go.Ev.Spare
