/- Full: the program's and the document's. -/
import Derived.Test.YtaeaipkjlhigmaasNode
namespace Go.Ev.Spare
open Go Go.Ev Go.Proofs

theorem cands_drop {bs : List D82} {hs : List D85} {i : Nat} {b : D82} {h : D85} (hb : bs[i]? = some b) (hh : hs[i]? = some h) : cands i (bs.drop i) (hs.drop i) = cand i b h ++ cands (i + 1) (bs.drop (i + 1)) (hs.drop (i + 1)) := by
  rw [drop_cons hb, drop_cons hh]
  rfl
theorem cands_end {bs : List D82} {hs : List D85} {i : Nat} (h : bs.length ≤ i) : cands i (bs.drop i) (hs.drop i) = [] := by
  rw [drop_none h]
  cases hs.drop i <;> rfl
theorem cand_len {n : Nat} {b : D82} {h : D85} : (cand n b h).length ≤ 1 := by
  unfold cand
  cases h.1 && (!b.2 && decide (0 < b.1)) <;> simp

theorem conf_backs {v : Int} {cs : List Site} (h : confMay v cs = true) {i : Nat} {p : Site} (hp : cs[i]? = some p) : p.2.length ≤ 4 ∧ 0 ≤ p.1.2.2.1 ∧ p.1.2.2.1 ≤ 8 := by
  unfold confMay at h
  rw [Bool.and_eq_true, List.all_eq_true] at h
  have := h.2 p (List.mem_of_getElem? hp)
  unfold siteMay to_ at this
  simp only [Bool.and_eq_true, decide_eq_true_eq] at this
  omega
theorem conf_len {v : Int} {cs : List Site} (h : confMay v cs = true) : cs.length ≤ 3 := by
  unfold confMay at h
  simp only [Bool.and_eq_true, decide_eq_true_eq] at h
  exact h.1.2
theorem healths_len {hs : List D85} (h : healthsMay hs 4 = true) : hs.length = 4 := by
  unfold healthsMay at h
  simp only [Bool.and_eq_true, beq_iff_eq] at h
  omega

theorem c18 {G H : Claim} {c : D23} {cs : List Site} {x2 : Sl} {hs : List D85} {i : Int} (hk : KCfg G c cs) (hh : Rows G S85 x2 hs) (hd : G.disj H) (h1 : confMay c.1 cs = true) (h2 : healthsMay hs 4 = true) :
    CallAt cx.P 18 [S23.enc c, .int .i64 i, .slice x2.a x2.len x2.cap] G H (.tup (.pair .slice (.int .i64))) (fun (r : Sl × Int) _ H' => H.le H' ∧ ∀ p, 0 ≤ i → cs[i.toNat]? = some p → r.1.len = (cands 0 p.2 hs).length) := by
  refine call_of ok Try.func18 (T18_eq c i x2) (wp_new fun n gn hn => ?_)
  have d1 := disj_upd (o := .cells #[.int .i64 c.1, .slice c.2.a c.2.len c.2.cap] 24 (0, 0)) hd gn
  have hle1 : H.le (H.upd n (.cells #[.int .i64 c.1, .slice c.2.a c.2.len c.2.cap] 24 (0, 0))) := Claim.le_upd hn
  generalize hH1 : H.upd n (.cells #[.int .i64 c.1, .slice c.2.a c.2.len c.2.cap] 24 (0, 0)) = H1 at *
  have ha : (G.and H1).at ⟨n, 0, none⟩ (S23.flat c) := Claim.at_le (Claim.le_and_right _ _) (by rw [← hH1]; exact upd_at H n (S23.flat c) 24 (0, 0))
  have hl2 := healths_len h2
  refine wp_call (c17 (i := i) ha hk d1) ?_
  rintro r G1 H2 g1 d2 ⟨rfl, rfl, hgot⟩
  refine wp_load (r := c) (fun _ => ha) (wp_dcall (p33 (hk.and (Claim.le_refl _) d1)) (wp_dcall (p35 (hh.and (Claim.le_refl _) d1)) (wp_cond (fun hc => ?_) (fun hc => ?_))))
  · refine wp_ret ⟨(⟨none, 0, 0⟩, (1300 : Int)), rfl, hle1, fun p h0 hp => ?_⟩
    rcases hgot with ⟨q, _, hq, rfl⟩ | ⟨hq, _⟩
    · rw [h1, h2] at hc; simp at hc
    · rcases hq with hq | hq
      · omega
      · rw [hq] at hp; cases hp
  rcases hgot with ⟨p, hi0, hp, rfl⟩ | ⟨_, hq⟩
  · have hkid := hk.kid p (List.mem_of_getElem? hp)
    have hcb := conf_backs h1 hp
    have lb : p.1.2.2.2.len = p.2.length := hkid.len
    have lh : x2.len = hs.length := hh.len
    refine wp_loop (fun (v : Sl × Int × Unit) _ H' => ∃ (i : Nat) (acc : List D69), v.2.1 = i ∧ i ≤ p.2.length ∧ acc.length ≤ i ∧ cands 0 p.2 hs = acc ++ cands i (p.2.drop i) (hs.drop i) ∧ Mine H' 70 S69 v.1 acc ∧ New G1 H2 v.1 ∧ H2.le H') (fun (v : Sl × Int × Unit) _ _ => p.2.length - v.2.1.toNat)
      ⟨0, [], rfl, Nat.zero_le _, Nat.le_refl _, rfl, Mine.nil _ _ _ _, New.nil _ _ _ _, Claim.le_refl _⟩ ?_
    rintro ⟨s, v, u⟩ G' H' hle hd' ⟨k, acc, hv, hki, hacc, he, hm, hnew, hkk⟩
    dsimp only at hv hm hnew
    subst hv
    refine wp_cond (fun hc2 => ?_) (fun hc2 => ?_)
    · have hc3 : (k : Int) < (p.1.2.2.2.len : Int) := by simpa using hc2
      have hkl : k < p.2.length := by omega
      have hc4 : (k : Int) < (x2.len : Int) := by omega
      have hrow := hkid.and hle hd'
      obtain ⟨(b : D82), (hb : p.2[k]? = some b), hat⟩ := hrow.get (j := (k : Int)) (by omega) hc3
      have hrow2 := hh.le hle
      obtain ⟨(h : D85), (hhk : hs[k]? = some h), hat2⟩ := hrow2.get (j := (k : Int)) (by omega) hc4
      have hw := wrap_next hc3 hkid.small
      refine wp_must (fun _ => ⟨(by show (0 : Int) ≤ (k : Int); omega), hc3, hrow.some (j := (k : Int)) (by omega) hc3⟩) (wp_load (r := b) (fun _ => hat) (wp_must (fun _ => ⟨(by show (0 : Int) ≤ (k : Int); omega), hc4, hrow2.some (j := (k : Int)) (by omega) hc4⟩) (wp_loadG (r := h) (Frz.refl hd') (fun _ => hat2) ?_)))
      refine wp_call (c38 (n := k) (b := b) (h := h) hm hnew hle hkk (by omega)) ?_
      rintro q G3 H3 g3 d3 ⟨m1, m2, m3⟩
      have hcl := cand_len (n := k) (b := b) (h := h)
      refine wp_again ⟨⟨k + 1, acc ++ cand k b h, hw, by omega, by rw [List.length_append]; omega, ?_, m1, m2, m3⟩, ?_⟩
      · rw [he, cands_drop hb hhk, List.append_assoc]
      · show p.2.length - (IntKind.i64.wrap ((k : Int) + 1)).toNat < p.2.length - ((k : Int)).toNat
        rw [hw]; omega
    · have hc3 : ¬ (k : Int) < (p.1.2.2.2.len : Int) := by simpa using hc2
      refine wp_pop (wp_ret ⟨(s, (0 : Int)), rfl, Claim.le_trans hle1 hkk, fun q _ hq => ?_⟩)
      have : p = q := by rw [hp] at hq; exact Option.some.inj hq
      subst this
      rw [he, cands_end (by omega), List.append_nil]
      exact hm.len (by decide)
  · rw [h1, h2, hq] at hc
    simp at hc

def full (id ver : Int) (cs : List Site) (hs : List D85) (vs : List D90) (es : List D49) : Bool × Int :=
  bif spareMay id ver cs hs vs es then (match cs[id.toNat]? with | none => (true, 0) | some p => (p.1.2.1 || (decide ((cands 0 p.2 hs).length = 0) || decide (p.1.2.2.1 ≤ (load es : Int))), 0)) else (false, 1700)

theorem spare_parts {id ver : Int} {cs : List Site} {hs : List D85} {vs : List D90} {es : List D49} (h : spareMay id ver cs hs vs es = true) : confMay ver cs = true ∧ (0 ≤ id ∧ id < 3) ∧ healthsMay hs 4 = true ∧ viewMay vs = true ∧ cacheMay es = true := by
  unfold spareMay siteIn at h
  simp only [Bool.and_eq_true, decide_eq_true_eq] at h
  exact h

variable {S : Claim} {x : D28} {cs : List Site} {hs : List D85} {vs : List D90} {es : List D49}

theorem full_no (h : spareMay x.1 x.2.1.1 cs hs vs es = false) : full x.1 x.2.1.1 cs hs vs es = (false, 1700) := by unfold full; rw [h]; rfl
theorem full_none (h : spareMay x.1 x.2.1.1 cs hs vs es = true) (hn : cs[x.1.toNat]? = none) : full x.1 x.2.1.1 cs hs vs es = (true, 0) := by unfold full; rw [h, hn]; rfl
theorem full_some {p : Site} (h : spareMay x.1 x.2.1.1 cs hs vs es = true) (hn : cs[x.1.toNat]? = some p) : full x.1 x.2.1.1 cs hs vs es = (p.1.2.1 || (decide ((cands 0 p.2 hs).length = 0) || decide (p.1.2.2.1 ≤ (load es : Int))), 0) := by unfold full; rw [h, hn]; rfl

theorem full_end {d : Bool} {l : Nat} {s : Sl} {n cap : Int} (hl : s.len = l) : Value.tuple #[.bool (bif bif d then true else (s.len : Int) == (0 : Int) then true else decide (n ≥ cap)), .int .i64 (0 : Int)] = Sh.enc (.tup (.pair .bool (.int .i64))) (d || (decide (l = 0) || decide (cap ≤ n)), (0 : Int)) := by
  subst hl
  have e : ((s.len : Int) == (0 : Int)) = decide (s.len = 0) := by rw [Bool.eq_iff_iff]; simp
  rw [e]
  cases d <;> cases decide (s.len = 0) <;> rfl

theorem p6 (hk : KNode S x cs hs vs es) : PureAt cx.P 6 [S28.enc x] S (.tup (.pair .bool (.int .i64))) (full x.1 x.2.1.1 cs hs vs es) := by
  refine pure_of ok Try.func6 (T6_eq x) (wp_new fun n gn hn => ?_)
  have d1 := disj_upd (o := .cells (S28.flat x).toArray 29 (0, 0)) (Claim.disj_none S) gn
  show T.wp cx.P _ _ S (Claim.none.upd n (.cells (S28.flat x).toArray 29 (0, 0))) _
  generalize hH1 : Claim.none.upd n (.cells (S28.flat x).toArray 29 (0, 0)) = H1 at *
  have ha : (S.and H1).at ⟨n, 0, none⟩ (S28.flat x) := Claim.at_le (Claim.le_and_right _ _) (by rw [← hH1]; exact upd_at _ n (S28.flat x) 29 (0, 0))
  have hb := hk.and (Claim.le_refl _) d1
  refine wp_dcall (p16 ha hb) (wp_cond (fun hc => wp_ret ?_) (fun hc => ?_))
  · rw [full_no (by simpa using hc)]
    rfl
  have hmay : spareMay x.1 x.2.1.1 cs hs vs es = true := by simpa using hc
  obtain ⟨h1, h0, h2, _, _⟩ := spare_parts hmay
  have a0 : (S.and H1).at ((⟨n, 0, none⟩ : Addr).add 0) [.int .i64 x.1] := at_sub ha [] (z := (S28.flat x).drop 1) rfl
  have a1 : (S.and H1).at ((⟨n, 0, none⟩ : Addr).add 1) (S23.flat x.2.1) := at_sub ha [.int .i64 x.1] (z := (S28.flat x).drop 3) rfl
  have a3 : (S.and H1).at ((⟨n, 0, none⟩ : Addr).add 3) [.slice x.2.2.1.a x.2.2.1.len x.2.2.1.cap] := at_sub ha ((S28.flat x).take 3) (z := (S28.flat x).drop 4) rfl
  refine wp_load (r := x.1) (fun _ => a0) (wp_call (c17 (i := x.1) a1 hk.cfg d1) ?_)
  rintro r G1 H2 g1 d2 ⟨rfl, rfl, hgot⟩
  refine wp_load (r := x.2.1) (fun _ => a1) (wp_load (r := x.1) (fun _ => a0) (wp_load (r := x.2.2.1) (fun _ => a3) ?_))
  refine wp_call (c18 (i := x.1) hk.cfg hk.hs d1 h1 h2) ?_
  rintro ⟨rs, rn⟩ G3 H3 g3 d3 ⟨hle3, hlen⟩
  dsimp only at hlen
  have ha3 : (G3.and H3).at ⟨n, 0, none⟩ (S28.flat x) := Claim.at_le (Claim.le_and_right _ _) (Claim.at_le hle3 (by rw [← hH1]; exact upd_at _ n (S28.flat x) 29 (0, 0)))
  refine wp_dcall (p19 ha3 (hk.and g3 d3)) (wp_ret ?_)
  rcases hgot with ⟨p, hi0, hp, rfl⟩ | ⟨hq, hr⟩
  · rw [full_some hmay hp]
    exact full_end (hlen p hi0 hp)
  · have hq' : cs[x.1.toNat]? = none := by
      rcases hq with hq | hq
      · omega
      · exact hq
    rw [full_none hmay hq', hr]
    rfl

theorem p21 {c : D23} {i : Int} (hk : KCfg S c cs) : PureAt cx.P 21 [S23.enc c, .int .i64 i, .int .i64 (-1 : Int)] S .bool (confMay c.1 cs && (decide (0 ≤ i) && decide (i < (cs.length : Int)))) := by
  have hb := hk.and (Claim.le_refl S) (Claim.disj_none S)
  have hl := hk.len
  refine pure_of ok Try.func21 (T21_eq c i (-1)) (wp_dcall (p39 hb) (wp_must (fun h => ?_) (⟨⟨none, 0, 0⟩, fun h => ?_, wp_ret ?_⟩)))
  · simp at h
  · simp at h
  · rw [hl]
    simp only [ge_iff_le]
    cases confMay c.1 cs <;> cases decide ((0 : Int) ≤ i) <;> cases decide (i < (cs.length : Int)) <;> rfl

theorem c22 {G H : Claim} {c : D23} {x2 : Sl} {i : Int} {p : Site} (hk : KCfg G c cs) (hh : Rows G S85 x2 hs) (hd : G.disj H) (h1 : confMay c.1 cs = true) (h2 : healthsMay hs 4 = true) (hi : 0 ≤ i) (hp : cs[i.toNat]? = some p) :
    CallAt cx.P 22 [S23.enc c, .int .i64 i, .slice x2.a x2.len x2.cap] G H (.tup (.pair .slice (.int .i64))) (fun (r : Sl × Int) _ H' => H.le H' ∧ r.1.len = (cands 0 p.2 hs).length) := by
  have hb := hk.and (Claim.le_refl G) hd
  have hl := hk.len
  have hilt : i.toNat < cs.length := (List.getElem?_eq_some_iff.1 hp).1
  have hi2 : i < (c.2.len : Int) := by omega
  have hl2 := healths_len h2
  have hcb := conf_backs h1 hp
  have hkid := hk.kid p (List.mem_of_getElem? hp)
  have lb : p.1.2.2.2.len = p.2.length := hkid.len
  have lh : x2.len = hs.length := hh.len
  refine call_of ok Try.func22 (T22_eq c i x2) (wp_dcall (p39 hb) (wp_dcall (p40 (hh.and (Claim.le_refl _) hd)) (wp_dcall (p21 hb) (wp_cond (fun hc => ?_) (fun _ => ?_)))))
  · rw [h1, h2, decide_eq_true hi, decide_eq_true (show i < (cs.length : Int) from by omega)] at hc
    cases hc
  obtain ⟨p', hp', hat, _⟩ := hb.get hi hi2
  have : p' = p := by rw [hp'] at hp; exact Option.some.inj hp
  subst this
  have a3 : (G.and H).at (((c.2.a.getD ⟨0, 0, none⟩).add (i.toNat * 4)).add 3) [.slice p'.1.2.2.2.a p'.1.2.2.2.len p'.1.2.2.2.cap] := at_sub hat [.int .i64 p'.1.1, .bool p'.1.2.1, .int .i64 p'.1.2.2.1] (z := []) rfl
  refine wp_must (fun _ => ⟨hi, hi2, hk.row.some hi hi2⟩) (wp_load (r := p'.1.2.2.2) (fun _ => a3) ?_)
  refine wp_loop (fun (v : Sl × Int × Unit) _ H' => ∃ (i : Nat) (acc : List D69), v.2.1 = i ∧ i ≤ p'.2.length ∧ acc.length ≤ i ∧ cands 0 p'.2 hs = acc ++ cands i (p'.2.drop i) (hs.drop i) ∧ Mine H' 70 S69 v.1 acc ∧ New G H v.1 ∧ H.le H') (fun (v : Sl × Int × Unit) _ _ => p'.2.length - v.2.1.toNat)
    ⟨0, [], rfl, Nat.zero_le _, Nat.le_refl _, rfl, Mine.nil _ _ _ _, New.nil _ _ _ _, Claim.le_refl _⟩ ?_
  rintro ⟨s, v, u⟩ G' H' hle hd' ⟨k, acc, hv, hki, hacc, he, hm, hnew, hkk⟩
  dsimp only at hv hm hnew
  subst hv
  refine wp_cond (fun hc2 => ?_) (fun hc2 => ?_)
  · have hc3 : (k : Int) < (p'.1.2.2.2.len : Int) := by simpa using hc2
    have hkl : k < p'.2.length := by omega
    have hc4 : (k : Int) < (x2.len : Int) := by omega
    have hrow := hkid.and hle hd'
    obtain ⟨(b : D82), (hb : p'.2[k]? = some b), hat⟩ := hrow.get (j := (k : Int)) (by omega) hc3
    have hrow2 := hh.and hle hd'
    obtain ⟨(h : D85), (hhk : hs[k]? = some h), hat2⟩ := hrow2.get (j := (k : Int)) (by omega) hc4
    have hw := wrap_next hc3 hkid.small
    have b0 : (G'.and H').at (((p'.1.2.2.2.a.getD ⟨0, 0, none⟩).add (k * 2)).add 0) [.int .i64 b.1] := at_sub hat [] (z := [.bool b.2]) rfl
    have b1 : (G'.and H').at (((p'.1.2.2.2.a.getD ⟨0, 0, none⟩).add (k * 2)).add 1) [.bool b.2] := at_sub hat [.int .i64 b.1] (z := []) rfl
    have u0 : (G'.and H').at (((x2.a.getD ⟨0, 0, none⟩).add (k * 2)).add 0) [.bool h.1] := at_sub hat2 [] (z := [.int .i64 h.2]) rfl
    have in1 : (0 : Int) ≤ (k : Int) ∧ (k : Int) < (p'.1.2.2.2.len : Int) ∧ p'.1.2.2.2.a.isSome = true := ⟨by omega, hc3, hrow.some (j := (k : Int)) (by omega) hc3⟩
    have in2 : (0 : Int) ≤ (k : Int) ∧ (k : Int) < (x2.len : Int) ∧ x2.a.isSome = true := ⟨by omega, hc4, hrow2.some (j := (k : Int)) (by omega) hc4⟩
    refine wp_must (fun _ => in2) (wp_load (r := h.1) (fun _ => u0) (wp_must (fun _ => in1) (wp_load (r := b.2) (fun _ => b1) (wp_must (fun _ => in1) (wp_load (r := b.1) (fun _ => b0) (wp_cond (fun hq => ?_) (fun hq => ?_)))))))
    · have e : cand k b h = [((k : Int), b.1)] := by
        unfold cand
        have : (h.1 && (!b.2 && decide (0 < b.1))) = true := by
          revert hq
          cases h.1 <;> cases b.2 <;> simp
        rw [this]; rfl
      refine wp_must (fun _ => in1) (wp_load (r := b.1) (fun _ => b0) ?_)
      refine wp_push (sh := S69) (x := (((k : Int), b.1) : D69)) (xs := acc) rfl rfl hm (by show acc.length + 1 ≤ maxLen; simp only [maxLen]; omega) (by show (acc.length + 1) * 16 ≤ 140737488355328; omega) (by decide) hle hkk hnew ?_
      intro G2 s2 H2 g1 m1 m2 m3 m4 m5 m6
      refine wp_again ⟨⟨k + 1, acc ++ [((k : Int), b.1)], hw, by omega, by rw [List.length_append]; simp; omega, ?_, m1, m3, m4⟩, ?_⟩
      · rw [he, cands_drop hb hhk, e, List.append_assoc]
      · show p'.2.length - (IntKind.i64.wrap ((k : Int) + 1)).toNat < p'.2.length - ((k : Int)).toNat
        rw [hw]; omega
    · have e : cand k b h = [] := by
        unfold cand
        have : (h.1 && (!b.2 && decide (0 < b.1))) = false := by
          revert hq
          cases h.1 <;> cases b.2 <;> simp
        rw [this]; rfl
      refine wp_again ⟨⟨k + 1, acc, hw, by omega, by omega, ?_, hm, hnew, hkk⟩, ?_⟩
      · rw [he, cands_drop hb hhk, e]; rfl
      · show p'.2.length - (IntKind.i64.wrap ((k : Int) + 1)).toNat < p'.2.length - ((k : Int)).toNat
        rw [hw]; omega
  · have hc3 : ¬ (k : Int) < (p'.1.2.2.2.len : Int) := by simpa using hc2
    refine wp_pop (wp_ret ⟨(s, (0 : Int)), rfl, hkk, ?_⟩)
    rw [he, cands_end (by omega), List.append_nil]
    exact hm.len (by decide)

theorem p7 (hk : KNode S x cs hs vs es) : PureAt cx.P 7 [S28.enc x] S (.tup (.pair .bool (.int .i64))) (full x.1 x.2.1.1 cs hs vs es) := by
  have d0 := Claim.disj_none S
  have hb := hk.and (Claim.le_refl S) d0
  have hl := hk.cfg.len
  refine pure_of ok Try.func7 (T7_eq x) (wp_dcall (p20 hb) (wp_cond (fun hc => wp_ret ?_) (fun hc => ?_)))
  · rw [full_no (by simpa using hc)]
    rfl
  have hmay : spareMay x.1 x.2.1.1 cs hs vs es = true := by simpa using hc
  obtain ⟨h1, h0, h2, _, _⟩ := spare_parts hmay
  refine wp_dcall (p21 (i := x.1) hb.cfg) (wp_cond (fun hc => wp_ret ?_) (fun hc => ?_))
  · have hq' : cs[x.1.toNat]? = none := by
      rw [h1, decide_eq_true h0.1] at hc
      have : ¬ x.1 < (cs.length : Int) := by simpa using hc
      exact List.getElem?_eq_none (by omega)
    rw [full_none hmay hq']
    rfl
  have hlt : x.1 < (cs.length : Int) := by
    rw [h1, decide_eq_true h0.1] at hc
    simpa using hc
  have hi2 : x.1 < (x.2.1.2.len : Int) := by omega
  obtain ⟨p, hp, hat, _⟩ := hb.cfg.get h0.1 hi2
  refine wp_must (fun _ => ⟨h0.1, hi2, hk.cfg.row.some h0.1 hi2⟩) (wp_load (r := p.1) (fun _ => hat) (wp_call (c22 (i := x.1) hk.cfg hk.hs d0 h1 h2 h0.1 hp) ?_))
  rintro ⟨rs, rn⟩ G3 H3 g3 d3 ⟨hle3, hlen⟩
  dsimp only at hlen
  refine wp_dcall (p23 (hk.and g3 d3)) (wp_ret ?_)
  rw [full_some hmay hp]
  exact full_end hlen
end Go.Ev.Spare
