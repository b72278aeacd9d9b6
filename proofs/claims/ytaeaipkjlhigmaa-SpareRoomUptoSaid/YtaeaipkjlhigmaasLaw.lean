/- Spares, SpareRoom: the program's answer is the document's. -/
import Derived.Test.YtaeaipkjlhigmaasAwake
namespace Go.Ev.Spare
open Go Go.Ev Go.Proofs

theorem same_cons {p q : Site} {ds cs : List Site} (h : sameAs (p :: ds) (q :: cs)) : siteData p = siteData q ∧ sameAs ds cs := by
  unfold sameAs at h
  rw [List.map_cons, List.map_cons, List.cons.injEq] at h
  exact h
theorem same_len {ds cs : List Site} (h : sameAs ds cs) : ds.length = cs.length := by
  have := congrArg List.length h
  simpa using this
theorem same_site {p q : Site} (h : siteData p = siteData q) : p.1.1 = q.1.1 ∧ p.1.2.1 = q.1.2.1 ∧ p.1.2.2.1 = q.1.2.2.1 ∧ p.2 = q.2 :=
  ⟨congrArg (·.1) h, congrArg (·.2.1) h, congrArg (·.2.2.1) h, congrArg (·.2.2.2) h⟩
theorem same_all : ∀ {ds cs : List Site}, sameAs ds cs → ds.all siteMay = cs.all siteMay
  | [], [], _ => rfl
  | p :: ds, q :: cs, h => by
    obtain ⟨h1, h2⟩ := same_cons h
    obtain ⟨e1, _, e3, e4⟩ := same_site h1
    rw [List.all_cons, List.all_cons, same_all h2]
    unfold siteMay
    rw [e1, e3, e4]
  | [], _ :: _, h => by have := same_len h; cases this
  | _ :: _, [], h => by have := same_len h; cases this
theorem same_targs {id now : Int} {vs : List D90} : ∀ {ds cs : List Site} (n : Nat), sameAs ds cs → targs id now vs n ds = targs id now vs n cs
  | [], [], _, _ => rfl
  | p :: ds, q :: cs, n, h => by
    obtain ⟨h1, h2⟩ := same_cons h
    obtain ⟨e1, e2, _, _⟩ := same_site h1
    show targ id now vs n p ++ targs id now vs (n + 1) ds = targ id now vs n q ++ targs id now vs (n + 1) cs
    rw [same_targs (n + 1) h2]
    unfold targ
    rw [e1, e2]
  | [], _ :: _, _, h => by have := same_len h; cases this
  | _ :: _, [], _, h => by have := same_len h; cases this
theorem same_get {ds cs : List Site} (h : sameAs ds cs) (i : Nat) : (ds[i]?).map siteData = (cs[i]?).map siteData := by
  rw [← List.getElem?_map, ← List.getElem?_map]
  exact congrArg (fun l => l[i]?) h
theorem same_conf {ver : Int} {ds cs : List Site} (h : sameAs ds cs) : confMay ver ds = confMay ver cs := by
  unfold confMay
  rw [same_len h, same_all h]
theorem same_may {id ver : Int} {ds cs : List Site} {hs : List D85} {vs : List D90} {es : List D49} (h : sameAs ds cs) : spareMay id ver ds hs vs es = spareMay id ver cs hs vs es := by
  unfold spareMay
  rw [same_conf h]
theorem same_full {id ver : Int} {ds cs : List Site} {hs : List D85} {vs : List D90} {es : List D49} (h : sameAs ds cs) : full id ver ds hs vs es = full id ver cs hs vs es := by
  unfold full
  rw [same_may h]
  have g := same_get h id.toNat
  cases e1 : ds[id.toNat]? with
  | none =>
    rw [e1] at g
    cases e2 : cs[id.toNat]? with
    | none => rfl
    | some q => rw [e2] at g; cases g
  | some p =>
    rw [e1] at g
    cases e2 : cs[id.toNat]? with
    | none => rw [e2] at g; cases g
    | some q =>
      rw [e2] at g
      obtain ⟨_, f2, f3, f4⟩ := same_site (Option.some.inj g)
      show (bif _ then (p.1.2.1 || (decide ((cands 0 p.2 hs).length = 0) || decide (p.1.2.2.1 ≤ (load es : Int))), (0 : Int)) else _) = (bif _ then (q.1.2.1 || (decide ((cands 0 q.2 hs).length = 0) || decide (q.1.2.2.1 ≤ (load es : Int))), (0 : Int)) else _)
      rw [f2, f3, f4]
theorem same_targets {id ver now : Int} {ds cs : List Site} {hs : List D85} {vs : List D90} {es : List D49} (h : sameAs ds cs) : targets id ver now ds hs vs es = targets id ver now cs hs vs es := by
  unfold targets
  rw [same_may h, same_targs 0 h]

section
variable {W : World} {x : D28} {cs : List Site} {hs : List D85} {vs : List D90} {es : List D49} {now : Int}

theorem c3 (hk : KNode (Claim.of W) x cs hs vs es) (f : Few cs hs vs es) : CallAt cx.P 3 [S28.enc x, .int .i64 now] (Claim.of W) Claim.none .bool (fun r _ _ => r = true) := by
  refine call_of ok Try.func3 (T3_eq x now) (wp_call (c5 hk (Claim.disj_none _) f) ?_)
  rintro y G1 H1 g1 d1 ⟨e1, e2, e3, ds, e4, hy⟩
  have hx := hk.le g1
  have f1 := (p6 (hy.and (Claim.le_refl _) d1)).eq (by rw [e1, e2]; exact same_full e4)
  refine wp_dcall f1 (wp_dcall (p7 (hx.and (Claim.le_refl _) d1)) (wp_call (c8 (now := now) hy d1) ?_))
  rintro ⟨ra, na⟩ G2 H2 g2 d2 ⟨ma, _, _, ea⟩
  rw [e1, e2, same_targets e4] at ma ea
  refine wp_call (c9 (now := now) (hx.le g2) d2) ?_
  rintro ⟨rb, nb⟩ G3 H3 g3 d3 ⟨mb, _, hb3, eb⟩
  dsimp only at ma ea mb eb
  have ra' : Rows (G3.and H3) S69 ra (targets x.1 x.2.1.1 now cs hs vs es).1 := ((ma.rows (by decide)).le hb3).le (Claim.le_and_right _ _)
  have rb' : Rows (G3.and H3) S69 rb (targets x.1 x.2.1.1 now cs hs vs es).1 := (mb.rows (by decide)).le (Claim.le_and_right _ _)
  have hee : na = nb := ea.trans eb.symm
  subst hee
  refine wp_dcall p10 (wp_dcall ((p11 ra' rb').eq (sameRow_refl (sh := S69) (by decide) _)) (wp_dcall p10 (wp_cond (fun hc => ?_) (fun _ => ?_))))
  · have hz : ∀ a : Int, (a != a) = false := fun a => by simp
    simp at hc
    exact absurd hc (Bool.eq_false_iff.mp (hz na))
  refine wp_call (c12 (ma.le hb3)) ?_
  rintro u G4 H4 g4 d4 -
  have K : G1.le (G4.and H4) := Claim.le_trans (Claim.le_trans g2 (Claim.le_trans g3 g4)) (Claim.le_and_left _ _ d4)
  exact wp_dcall (p13 (hy.le K) (hx.le K) e1 e2 e3 e4) (wp_dcall p14 (wp_ret ⟨true, rfl, rfl⟩))

/-- whether it is full, of one whose flows went -/
theorem full_code {id ver : Int} (h : (full id ver cs hs vs es).2 ≠ 0) : (full id ver cs hs vs es).1 = false := by
  cases e0 : spareMay id ver cs hs vs es with
  | false => unfold full; rw [e0]; rfl
  | true =>
    exfalso
    apply h
    unfold full
    rw [e0]
    cases cs[id.toNat]? <;> rfl
theorem full_ok {id ver : Int} (h : (full id ver cs hs vs es).2 = 0) : spareMay id ver cs hs vs es = true := by
  unfold full at h
  cases e : spareMay id ver cs hs vs es
  · rw [e] at h; cases h
  · rfl
theorem may_nil {id ver : Int} (h : spareMay id ver cs hs vs es = true) : spareMay id ver cs hs vs [] = true := by
  obtain ⟨h1, h0, h2, h3, _⟩ := spare_parts h
  unfold spareMay siteIn
  rw [h1, h2, h3, decide_eq_true h0.1, decide_eq_true h0.2]
  rfl

theorem c4 (hk : KNode (Claim.of W) x cs hs vs es) (f : Few cs hs vs es) : CallAt cx.P 4 [S28.enc x] (Claim.of W) Claim.none .bool (fun r _ _ => r = true) := by
  have d0 := Claim.disj_none (Claim.of W)
  have hb := hk.and (Claim.le_refl _) d0
  refine call_of ok Try.func4 (T4_eq x) (wp_dcall p14 (wp_cond (fun h => by cases h) (fun _ => wp_dcall (p6 hb) (wp_dcall p10 (wp_cond (fun hc => wp_ret ⟨_, rfl, ?_⟩) (fun hc => ?_))))))
  · have hc' : (full x.1 x.2.1.1 cs hs vs es).2 ≠ 0 := by simpa using hc
    rw [full_code hc']
    rfl
  have hc0 : (full x.1 x.2.1.1 cs hs vs es).2 = 0 := by simpa using hc
  have hmay := full_ok hc0
  have hnil := may_nil hmay
  obtain ⟨h1, h0, h2, _, _⟩ := spare_parts hmay
  refine wp_call (c5 hk d0 f) ?_
  rintro y G1 H1 g1 d1 ⟨e1, e2, e3, ds, e4, hy⟩
  have hx := hk.le g1
  have fy : PureAt cx.P 6 [S28.enc (y.1, y.2.1, y.2.2.1, y.2.2.2.1, ⟨none, 0, 0⟩, y.2.2.2.2.2)] (G1.and H1) (.tup (.pair .bool (.int .i64))) (full x.1 x.2.1.1 cs hs vs []) := by
    refine (p6 ((hy.and (Claim.le_refl _) d1).flows (es' := ([] : List D49)) ⟨rfl, Nat.zero_le _, fun h => absurd rfl h⟩)).eq ?_
    show full y.1 y.2.1.1 ds hs vs [] = _
    rw [e1, e2]
    exact same_full e4
  refine wp_dcall_at fy (by kernel_rfl) (wp_dcall p10 (wp_cond (fun hc2 => ?_) (fun hc2 => wp_cond (fun _ => wp_ret ⟨true, rfl, rfl⟩) (fun hc3 => ?_))))
  · exfalso
    cases e : cs[x.1.toNat]? with
    | none =>
      rw [full_none (es := []) hnil e, full_none hmay e] at hc2
      simp at hc2
    | some p =>
      rw [full_some (es := []) hnil e, full_some hmay e] at hc2
      have hl0 : load [] = 0 := rfl
      rw [hl0] at hc2
      by_cases hd : p.1.2.1 = true
      · simp [hd] at hc2
      · by_cases hz : (cands 0 p.2 hs).length = 0
        · simp [hz] at hc2
        · by_cases hq : p.1.2.2.1 ≤ (load es : Int)
          · simp [hq] at hc2
          · have hq0 : ¬ p.1.2.2.1 ≤ 0 := by omega
            simp [hd, hz, hq0] at hc2
  · have hl := hk.cfg.len
    have hidl : x.1 < (x.2.1.2.len : Int) := by
      by_cases h : x.1 < (x.2.1.2.len : Int)
      · exact h
      · have h' : x.1 ≥ (x.2.1.2.len : Int) := by omega
        rw [decide_eq_true h'] at hc3
        simp at hc3
    have hno : (full x.1 x.2.1.1 cs hs vs []).1 = false := by
      cases hv : (full x.1 x.2.1.1 cs hs vs []).1
      · rfl
      · rw [hv] at hc3; simp at hc3
    have hel : x.2.2.2.2.1.len = es.length := hk.es.len
    refine wp_count hel hk.es.small ?_ ?_
    · intro i n G' H' J hle hd hc hJ
      have hrow := hx.es.and hle hd
      obtain ⟨(e : D49), (he : es[i]? = some e), hat⟩ := hrow.get (j := (i : Int)) (by omega) hc
      have hj := hJ e he
      have a6 : (G'.and H').at (((x.2.2.2.2.1.a.getD ⟨0, 0, none⟩).add (i * 9)).add 6) [.bool e.2.2.1] := at_sub hat [.int .i64 e.1.1, .int .i64 e.1.2.1, .int .i64 e.1.2.2.1, .int .i64 e.1.2.2.2.1, .int .i64 e.1.2.2.2.2, .int .i64 e.2.1] (z := [.int .i64 e.2.2.2.1, .int .i64 e.2.2.2.2]) rfl
      refine wp_must (fun _ => ⟨(by show (0 : Int) ≤ (i : Int); omega), hc, hrow.some (j := (i : Int)) (by omega) hc⟩) (wp_load (r := e.2.2.1) (fun _ => a6) (wp_cond (fun hq => wp_again (hj.1 (by simpa using hq) _ _)) (fun hq => wp_again (hj.2 (by simpa using hq) _ _))))
    · intro i G' H' J hle hd
      have hrow := hx.cfg.and hle hd
      obtain ⟨p, hp, hat, _⟩ := hrow.get (j := x.1) h0.1 hidl
      have a2 : (G'.and H').at (((x.2.1.2.a.getD ⟨0, 0, none⟩).add (x.1.toNat * 4)).add 2) [.int .i64 p.1.2.2.1] := at_sub hat [.int .i64 p.1.1, .bool p.1.2.1] (z := [.slice p.1.2.2.2.a p.1.2.2.2.len p.1.2.2.2.cap]) rfl
      refine wp_pop (wp_must (fun _ => ⟨h0.1, hidl, hrow.row.some (j := x.1) h0.1 hidl⟩) (wp_load (r := p.1.2.2.1) (fun _ => a2) (wp_ret ⟨true, ?_, rfl⟩)))
      rw [full_some (es := []) hnil hp] at hno
      rw [full_some hmay hp]
      show Value.bool _ = Value.bool true
      congr 1
      have hl0 : load [] = 0 := rfl
      simp only [hl0, Bool.or_eq_false_iff] at hno
      obtain ⟨n1, n2, _⟩ := hno
      rw [n1, n2]
      show (decide (p.1.2.2.1 ≤ (load es : Int)) == decide ((load es : Int) ≥ p.1.2.2.1)) = true
      simp
end
end Go.Ev.Spare
