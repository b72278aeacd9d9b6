/- Targets: the program's and the document's. -/
import Derived.Test.YtaeaipkjlhigmaasFull
namespace Go.Ev.Spare
open Go Go.Ev Go.Proofs

def targ (id now : Int) (vs : List D90) (i : Nat) (p : Site) : List D69 :=
  bif (i : Int) != id && (!p.1.2.1 && (decide (0 < p.1.1) && ((spareOf vs i now).2.1 && decide (0 < (spareOf vs i now).1)))) then [((i : Int), min (spareOf vs i now).1 16)] else []
def targs (id now : Int) (vs : List D90) : Nat → List Site → List D69
  | _, [] => []
  | n, p :: ps => targ id now vs n p ++ targs id now vs (n + 1) ps
def targets (id ver now : Int) (cs : List Site) (hs : List D85) (vs : List D90) (es : List D49) : List D69 × Int :=
  bif spareMay id ver cs hs vs es && timeMay now then (targs id now vs 0 cs, 0) else ([], 1700)

theorem targ_len {id now : Int} {vs : List D90} {i : Nat} {p : Site} : (targ id now vs i p).length ≤ 1 := by
  unfold targ
  cases (i : Int) != id && (!p.1.2.1 && (decide (0 < p.1.1) && ((spareOf vs i now).2.1 && decide (0 < (spareOf vs i now).1)))) <;> simp
theorem targs_drop {id now : Int} {vs : List D90} {cs : List Site} {i : Nat} {p : Site} (hp : cs[i]? = some p) : targs id now vs i (cs.drop i) = targ id now vs i p ++ targs id now vs (i + 1) (cs.drop (i + 1)) := by
  rw [drop_cons hp]; rfl

section
variable {G H : Claim} {x : D28} {cs : List Site} {hs : List D85} {vs : List D90} {es : List D49} {now : Int}

theorem targets_no (h : (spareMay x.1 x.2.1.1 cs hs vs es && timeMay now) = false) : targets x.1 x.2.1.1 now cs hs vs es = ([], 1700) := by unfold targets; rw [h]; rfl
theorem targets_yes (h : (spareMay x.1 x.2.1.1 cs hs vs es && timeMay now) = true) : targets x.1 x.2.1.1 now cs hs vs es = (targs x.1 now vs 0 cs, 0) := by unfold targets; rw [h]; rfl

/-- a new row of candidates, and a number -/
def Told (G H : Claim) (t : List D69 × Int) (r : Sl × Int) (H' : Claim) : Prop := Mine H' 70 S69 r.1 t.1 ∧ New G H r.1 ∧ H.le H' ∧ r.2 = t.2

theorem targ_of {d t : Bool} {i : Nat} {id w k : Int} : (bif bif bif bif (i : Int) != id then !d else false then decide (w > (0 : Int)) else false then t else false then decide (k > (0 : Int)) else false) = ((i : Int) != id && (!d && (decide (0 < w) && (t && decide (0 < k))))) := by
  show (bif bif bif bif (i : Int) != id then !d else false then decide (0 < w) else false then t else false then decide (0 < k) else false) = _
  cases (i : Int) != id <;> cases d <;> cases decide (0 < w) <;> cases t <;> rfl

theorem c9 (hk : KNode G x cs hs vs es) (hd : G.disj H) : CallAt cx.P 9 [S28.enc x, .int .i64 now] G H (.tup (.pair .slice (.int .i64))) (fun (r : Sl × Int) _ H' => Told G H (targets x.1 x.2.1.1 now cs hs vs es) r H') := by
  have hb := hk.and (Claim.le_refl G) hd
  have hl := hk.cfg.len
  refine call_of ok Try.func9 (T9_eq x now) (wp_dcall (p20 hb) (wp_dcall (p26 _) (wp_cond (fun hc => ?_) (fun hc => ?_))))
  · have : (spareMay x.1 x.2.1.1 cs hs vs es && timeMay now) = false := by
      revert hc
      cases spareMay x.1 x.2.1.1 cs hs vs es <;> cases timeMay now <;> simp
    rw [targets_no this]
    exact wp_ret ⟨(⟨none, 0, 0⟩, (1700 : Int)), rfl, Mine.nil _ _ _ _, New.nil _ _ _ _, Claim.le_refl _, rfl⟩
  have hmay : (spareMay x.1 x.2.1.1 cs hs vs es && timeMay now) = true := by
    revert hc
    cases spareMay x.1 x.2.1.1 cs hs vs es <;> cases timeMay now <;> simp
  have h3 : cs.length ≤ 3 := conf_len (spare_parts ((Bool.and_eq_true _ _ ▸ hmay).1)).1
  rw [targets_yes hmay]
  refine wp_loop (fun (v : Sl × Int × Unit) _ H' => ∃ (i : Nat) (acc : List D69), v.2.1 = i ∧ i ≤ cs.length ∧ acc.length ≤ i ∧ targs x.1 now vs 0 cs = acc ++ targs x.1 now vs i (cs.drop i) ∧ Mine H' 70 S69 v.1 acc ∧ New G H v.1 ∧ H.le H') (fun (v : Sl × Int × Unit) _ _ => cs.length - v.2.1.toNat)
    ⟨0, [], rfl, Nat.zero_le _, Nat.le_refl _, rfl, Mine.nil _ _ _ _, New.nil _ _ _ _, Claim.le_refl _⟩ ?_
  rintro ⟨s, v, u⟩ G' H' hle hd' ⟨k, acc, hv, hki, hacc, he, hm, hnew, hkk⟩
  dsimp only at hv hm hnew
  subst hv
  refine wp_cond (fun hc2 => ?_) (fun hc2 => ?_)
  · have hc3 : (k : Int) < (x.2.1.2.len : Int) := by simpa using hc2
    have hrow := hk.and hle hd'
    obtain ⟨p, (hp : cs[k]? = some p), hat, _⟩ := hrow.cfg.get (j := (k : Int)) (by omega) hc3
    have hw := wrap_next hc3 hk.cfg.row.small
    refine wp_must (fun _ => ⟨(by show (0 : Int) ≤ (k : Int); omega), hc3, hrow.cfg.row.some (j := (k : Int)) (by omega) hc3⟩) (wp_load (r := p.1) (fun _ => hat) (wp_dcall (p27 (i := (k : Int)) (now := now) hrow.vs) (wp_cond (fun hq => ?_) (fun hq => ?_))))
    · have hq' := targ_of.symm.trans hq
      have e : targ x.1 now vs k p = [((k : Int), min (spareOf vs k now).1 16)] := by unfold targ; rw [hq']; rfl
      refine wp_push (sh := S69) (x := (((k : Int), min (spareOf vs k now).1 16) : D69)) (xs := acc) rfl rfl hm (by show acc.length + 1 ≤ maxLen; simp only [maxLen]; omega) (by show (acc.length + 1) * 16 ≤ 140737488355328; omega) (by decide) hle hkk hnew ?_
      intro G2 s2 H2 g1 m1 m2 m3 m4 m5 m6
      refine wp_again ⟨⟨k + 1, acc ++ [((k : Int), min (spareOf vs k now).1 16)], hw, by omega, by rw [List.length_append]; simp; omega, ?_, m1, m3, m4⟩, ?_⟩
      · rw [he, targs_drop hp, e, List.append_assoc]
      · show cs.length - (IntKind.i64.wrap ((k : Int) + 1)).toNat < cs.length - ((k : Int)).toNat
        rw [hw]; omega
    · have hq' := targ_of.symm.trans hq
      have e : targ x.1 now vs k p = [] := by unfold targ; rw [hq']; rfl
      refine wp_again ⟨⟨k + 1, acc, hw, by omega, by omega, ?_, hm, hnew, hkk⟩, ?_⟩
      · rw [he, targs_drop hp, e]; rfl
      · show cs.length - (IntKind.i64.wrap ((k : Int) + 1)).toNat < cs.length - ((k : Int)).toNat
        rw [hw]; omega
  · have hc3 : ¬ (k : Int) < (x.2.1.2.len : Int) := by simpa using hc2
    refine wp_pop (wp_ret ⟨(s, (0 : Int)), rfl, ?_, hnew, hkk, rfl⟩)
    have e2 : targs x.1 now vs 0 cs = acc := by
      rw [he, drop_none (by omega)]
      exact List.append_nil acc
    rw [e2]
    exact hm

theorem c8 (hk : KNode G x cs hs vs es) (hd : G.disj H) : CallAt cx.P 8 [S28.enc x, .int .i64 now] G H (.tup (.pair .slice (.int .i64))) (fun (r : Sl × Int) _ H' => Told G H (targets x.1 x.2.1.1 now cs hs vs es) r H') := by
  have hl := hk.cfg.len
  refine call_of ok Try.func8 (T8_eq x now) (wp_new fun n gn hn => ?_)
  show T.wp cx.P _ _ G (H.upd n (.cells (S28.flat x).toArray 29 (0, 0))) _
  have d1 := disj_upd (o := .cells (S28.flat x).toArray 29 (0, 0)) hd gn
  have hle1 : H.le (H.upd n (.cells (S28.flat x).toArray 29 (0, 0))) := Claim.le_upd hn
  have hat1 : (H.upd n (.cells (S28.flat x).toArray 29 (0, 0))).at ⟨n, 0, none⟩ (S28.flat x) := upd_at _ n (S28.flat x) 29 (0, 0)
  generalize H.upd n (.cells (S28.flat x).toArray 29 (0, 0)) = H1 at *
  have ha : (G.and H1).at ⟨n, 0, none⟩ (S28.flat x) := Claim.at_le (Claim.le_and_right _ _) hat1
  have hb := hk.and (Claim.le_refl _) d1
  have a2 : (G.and H1).at (((⟨n, 0, none⟩ : Addr).add 1).add 1) [.slice x.2.1.2.a x.2.1.2.len x.2.1.2.cap] := by
    rw [Addr.add_add]
    exact at_sub ha ((S28.flat x).take 2) (z := (S28.flat x).drop 3) rfl
  refine wp_dcall (p16 ha hb) (wp_dcall (p24 _) (wp_cond (fun hc => ?_) (fun hc => ?_)))
  · have : (spareMay x.1 x.2.1.1 cs hs vs es && timeMay now) = false := by
      revert hc
      cases spareMay x.1 x.2.1.1 cs hs vs es <;> cases timeMay now <;> simp
    rw [targets_no this]
    exact wp_ret ⟨(⟨none, 0, 0⟩, (1700 : Int)), rfl, Mine.nil _ _ _ _, New.nil _ _ _ _, hle1, rfl⟩
  have hmay : (spareMay x.1 x.2.1.1 cs hs vs es && timeMay now) = true := by
    revert hc
    cases spareMay x.1 x.2.1.1 cs hs vs es <;> cases timeMay now <;> simp
  have h3 : cs.length ≤ 3 := conf_len (spare_parts ((Bool.and_eq_true _ _ ▸ hmay).1)).1
  rw [targets_yes hmay]
  refine wp_load (r := x.2.1.2) (fun _ => a2) ?_
  refine wp_loop (fun (v : Sl × Int × Unit) _ H' => ∃ (i : Nat) (acc : List D69), v.2.1 = i ∧ i ≤ cs.length ∧ acc.length ≤ i ∧ targs x.1 now vs 0 cs = acc ++ targs x.1 now vs i (cs.drop i) ∧ Mine H' 70 S69 v.1 acc ∧ New G H1 v.1 ∧ H1.le H') (fun (v : Sl × Int × Unit) _ _ => cs.length - v.2.1.toNat)
    ⟨0, [], rfl, Nat.zero_le _, Nat.le_refl _, rfl, Mine.nil _ _ _ _, New.nil _ _ _ _, Claim.le_refl _⟩ ?_
  rintro ⟨s, v, u⟩ G' H' hle hd' ⟨k, acc, hv, hki, hacc, he, hm, hnew, hkk⟩
  dsimp only at hv hm hnew
  subst hv
  have ha' : (G'.and H').at ⟨n, 0, none⟩ (S28.flat x) := Claim.at_le (Claim.le_and_right _ _) (Claim.at_le hkk hat1)
  have a0 : (G'.and H').at ((⟨n, 0, none⟩ : Addr).add 0) [.int .i64 x.1] := at_sub ha' [] (z := (S28.flat x).drop 1) rfl
  have a4 : (G'.and H').at ((⟨n, 0, none⟩ : Addr).add 4) [.slice x.2.2.2.1.a x.2.2.2.1.len x.2.2.2.1.cap] := at_sub ha' ((S28.flat x).take 4) (z := (S28.flat x).drop 5) rfl
  refine wp_cond (fun hc2 => ?_) (fun hc2 => ?_)
  · have hc3 : (k : Int) < (x.2.1.2.len : Int) := by simpa using hc2
    have hrow := hk.and hle hd'
    obtain ⟨p, (hp : cs[k]? = some p), hat, _⟩ := hrow.cfg.get (j := (k : Int)) (by omega) hc3
    have hw := wrap_next hc3 hk.cfg.row.small
    refine wp_must (fun _ => ⟨(by show (0 : Int) ≤ (k : Int); omega), hc3, hrow.cfg.row.some (j := (k : Int)) (by omega) hc3⟩) (wp_load (r := p.1) (fun _ => hat) (wp_load (r := x.2.2.2.1) (fun _ => a4) (wp_dcall (p25 (i := (k : Int)) (now := now) hrow.vs) (wp_load (r := x.1) (fun _ => a0) (wp_cond (fun hq => ?_) (fun hq => ?_))))))
    · have hq' := targ_of.symm.trans hq
      have e : targ x.1 now vs k p = [((k : Int), min (spareOf vs k now).1 16)] := by unfold targ; rw [hq']; rfl
      refine wp_push (sh := S69) (x := (((k : Int), min (spareOf vs k now).1 16) : D69)) (xs := acc) rfl rfl hm (by show acc.length + 1 ≤ maxLen; simp only [maxLen]; omega) (by show (acc.length + 1) * 16 ≤ 140737488355328; omega) (by decide) hle hkk hnew ?_
      intro G2 s2 H2 g1 m1 m2 m3 m4 m5 m6
      refine wp_again ⟨⟨k + 1, acc ++ [((k : Int), min (spareOf vs k now).1 16)], hw, by omega, by rw [List.length_append]; simp; omega, ?_, m1, m3, m4⟩, ?_⟩
      · rw [he, targs_drop hp, e, List.append_assoc]
      · show cs.length - (IntKind.i64.wrap ((k : Int) + 1)).toNat < cs.length - ((k : Int)).toNat
        rw [hw]; omega
    · have hq' := targ_of.symm.trans hq
      have e : targ x.1 now vs k p = [] := by unfold targ; rw [hq']; rfl
      refine wp_again ⟨⟨k + 1, acc, hw, by omega, by omega, ?_, hm, hnew, hkk⟩, ?_⟩
      · rw [he, targs_drop hp, e]; rfl
      · show cs.length - (IntKind.i64.wrap ((k : Int) + 1)).toNat < cs.length - ((k : Int)).toNat
        rw [hw]; omega
  · have hc3 : ¬ (k : Int) < (x.2.1.2.len : Int) := by simpa using hc2
    refine wp_pop (wp_ret ⟨(s, (0 : Int)), rfl, ?_, hnew.le (Claim.le_refl _) hle1, Claim.le_trans hle1 hkk, rfl⟩)
    have e2 : targs x.1 now vs 0 cs = acc := by
      rw [he, drop_none (by omega)]
      exact List.append_nil acc
    rw [e2]
    exact hm
end

/-- what is written over: nothing is known of it after that -/
theorem c12 {G H : Claim} {s : Sl} {xs : List D69} (hs : Mine H 70 S69 s xs) :
    CallAt cx.P 12 [.slice s.a s.len s.cap] G H (.tup .unit) (fun _ _ _ => True) := by
  have hl : s.len = xs.length := hs.len (by decide)
  obtain ⟨hcl, hcm⟩ := hs.capOk
  refine call_of ok Try.func12 (T12_eq s) ?_
  rcases hs.2 with ⟨e0, _⟩ | ⟨g, cur, e1, e2, _, _, e5, e6⟩
  · refine wp_loop (fun (v : Int × Unit) _ _ => v.1 = 0) (fun _ _ _ => 0) rfl ?_
    rintro ⟨v, u⟩ G' H' hle hdd hv
    dsimp only at hv
    subst hv
    refine wp_cond (fun hc => ?_) (fun hc => wp_pop (wp_ret ⟨(), rfl, trivial⟩))
    simp [e0] at hc
  · refine wp_loop (fun (v : Int × Unit) _ H' => ∃ (i : Nat) (c : Array Value), v.1 = i ∧ i ≤ s.len ∧ H' g = some (.cells c 70 (0, 0)) ∧ c.size = s.cap * 2 ∧ ∀ j, i ≤ j → j < s.len → ∃ z, c[j * 2]? = some (.int .i64 z)) (fun (v : Int × Unit) _ _ => s.len - v.1.toNat)
      ⟨0, cur, rfl, Nat.zero_le _, e2, e5, fun j _ hj => ?_⟩ ?_
    · have hj2 : j < xs.length := by omega
      refine ⟨(xs[j]).1, ?_⟩
      have h1 : (xs.flatMap S69.flat)[j * 2]? = some (.int .i64 (xs[j]).1) := by
        have hat : ∀ (l : List D69) (j : Nat) (hj : j < l.length), (l.flatMap S69.flat)[j * 2]? = some (.int .i64 (l[j]).1) := by
          intro l
          induction l with
          | nil => intro j hj; cases hj
          | cons y ys ih =>
            intro j hj
            cases j with
            | zero => rfl
            | succ j =>
              rw [show (j + 1) * 2 = j * 2 + 2 from by omega]
              show (S69.flat y ++ ys.flatMap S69.flat)[j * 2 + 2]? = _
              rw [List.getElem?_append_right (by show 2 ≤ j * 2 + 2; omega)]
              show (ys.flatMap S69.flat)[j * 2 + 2 - 2]? = _
              rw [show j * 2 + 2 - 2 = j * 2 from by omega]
              exact ih j (by simpa using hj)
        exact hat xs j hj2
      rw [← e6, List.getElem?_take] at h1
      split at h1
      · simpa using h1
      · cases h1
    rintro ⟨v, u⟩ G' H' hle hdd ⟨i, c, hv, hi, f1, f2, f3⟩
    dsimp only at hv
    subst hv
    refine wp_cond (fun hc => ?_) (fun hc => wp_pop (wp_ret ⟨(), rfl, trivial⟩))
    have hc3 : (i : Int) < (s.len : Int) := by simpa using hc
    obtain ⟨z, hz⟩ := f3 i (Nat.le_refl _) (by omega)
    have ea : (((s.a.getD { block := 0, off := 0 }).add ((i : Int).toNat * 2)).add 0) = ⟨g, i * 2, none⟩ := by
      rw [e1]
      show (((⟨g, 0, none⟩ : Addr).add (i * 2)).add 0) = _
      rw [Addr.add_zero, Addr.add_mk, Nat.zero_add]
    have hsome : s.a.isSome = true := by rw [e1]; rfl
    have hw := wrap_next hc3 (Nat.le_trans hcl hcm)
    have inb : (0 : Int) ≤ (i : Int) ∧ (i : Int) < (s.len : Int) ∧ s.a.isSome = true := ⟨by omega, hc3, hsome⟩
    refine wp_must (fun _ => inb) (wp_load (r := z) (fun _ => ?_) (wp_must (fun _ => inb) (wp_store_at (off := i * 2) (c := c) ea f1 (by show i * 2 + 1 ≤ c.size; omega) (wp_again ⟨⟨i + 1, _, hw, by omega, Claim.upd_same _ _ _, ?_, fun j h1 h2 => ?_⟩, ?_⟩))))
    · show (G'.and H').at (((s.a.getD { block := 0, off := 0 }).add ((i : Int).toNat * 2)).add 0) [.int .i64 z]
      rw [ea]
      refine Claim.at_le (Claim.le_and_right _ _) ?_
      have := at_field (n := g) (o := 0) (k := i * 2) (v := .int .i64 z) f1 (by rw [Nat.zero_add]; exact hz)
      rwa [Addr.add_mk, Nat.zero_add] at this
    · simp
      omega
    · obtain ⟨y, hy⟩ := f3 j (by omega) h2
      refine ⟨y, ?_⟩
      have hlt := (Array.getElem?_eq_some_iff.1 hy).1
      have e3 : (c.toList.take (i * 2) ++ [Value.int .i64 (bitsI BinOp.xor IntKind.i64 z 90)]).length = i * 2 + 1 := by simp; omega
      show ((c.toList.take (i * 2) ++ [Value.int .i64 (bitsI BinOp.xor IntKind.i64 z 90)] ++ c.toList.drop (i * 2 + 1)).toArray)[j * 2]? = _
      rw [List.getElem?_toArray, List.getElem?_append_right (by omega), e3, List.getElem?_drop, show i * 2 + 1 + (j * 2 - (i * 2 + 1)) = j * 2 from by omega]
      simpa using hy
    · simp only [hw]; omega
end Go.Ev.Spare
