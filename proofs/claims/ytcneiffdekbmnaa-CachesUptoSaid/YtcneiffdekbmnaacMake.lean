/- The parts of this seat that make rows. -/
import Derived.Test.YtcneiffdekbmnaacRead
namespace Go.Ev.Cache
open Go Go.Ev Go.Proofs

/-- a new row of entries -/
def Gives (G H : Claim) (xs : List D25) (r : Sl) (H' : Claim) : Prop := Mine H' 26 S25 r xs ∧ New G H r ∧ H.le H'

def big : Nat := 2000000

def others (xs : List D25) (f : D23) : List D25 := xs.filter fun e => !sameFlow f e

theorem c25 {G H : Claim} {s : Sl} {xs : List D25} {f : D23} (hs : Rows G S25 s xs) (hb : xs.length ≤ big) :
    CallAt cx.P 25 [.slice s.a s.len s.cap, S23.enc f] G H .slice (fun r _ H' => Gives G H (others xs f) r H') := by
  refine call_of ok Try.func25 (T25_eq s f) ?_
  refine wp_loop (fun (v : Sl × Int × Unit) _ H' => ∃ (i : Nat) (acc : List D25), v.2.1 = i ∧ i ≤ s.len ∧ acc.length ≤ i ∧ others xs f = acc ++ others (xs.drop i) f ∧ Gives G H acc v.1 H') (fun (v : Sl × Int × Unit) _ _ => s.len - v.2.1.toNat)
    ⟨0, [], rfl, Nat.zero_le _, Nat.zero_le _, rfl, Mine.nil _ _ _ _, New.nil _ _ _ _, Claim.le_refl _⟩ ?_
  rintro ⟨r, v, u⟩ G' H' hle hd ⟨i, acc, rfl, hi, hacc, he, hm, hnew, hk⟩
  dsimp only at hm hnew ⊢
  have hrow := hs.and hle hd
  have hlen : s.len = xs.length := hs.len
  have hbig : xs.length ≤ 2000000 := hb

  refine wp_cond (fun hc => ?_) (fun hc => ?_)
  · simp only [decide_eq_true_eq] at hc
    obtain ⟨(x : D25), (hx' : xs[i]? = some x), hat⟩ := hrow.get (j := (i : Int)) (by omega) hc
    have hw := wrap_next hc hs.small
    have e0 : others (xs.drop i) f = (if sameFlow f x then [] else [x]) ++ others (xs.drop (i + 1)) f := by
      rw [drop_cons hx']
      unfold others
      rw [List.filter_cons]
      cases sameFlow f x <;> rfl
    refine wp_must (fun _ => ⟨by omega, hc, hrow.some (by omega) hc⟩) (wp_load (r := x.1) (fun _ => flow_at hat) ?_)
    refine wp_cond (fun hp => ?_) (fun hp => wp_again ⟨⟨i + 1, acc, hw, by omega, by omega, ?_, hm, hnew, hk⟩, ?_⟩)
    · have hp0 : (!sameFlow f x) = true := hp
      have hp' : sameFlow f x = false := by simpa using hp0
      refine wp_must (fun _ => ⟨by omega, hc, hrow.some (by omega) hc⟩) (wp_load (r := x) (fun _ => hat) ?_)
      refine wp_push (sh := S25) (x := x) (xs := acc) rfl rfl hm (by show acc.length + 1 ≤ maxLen; simp only [maxLen]; omega) (by show (acc.length + 1) * 72 ≤ 140737488355328; omega) (by decide) hle hk hnew ?_
      intro G2 s2 H2 g1 m1 m2 m3 m4 m5 m6
      refine wp_again ⟨⟨i + 1, acc ++ [x], hw, by omega, by simp; omega, ?_, m1, m3, m4⟩, ?_⟩
      · rw [he, e0, hp']; simp
      · simp only [hw]; omega
    · have hp0 : (!sameFlow f x) = false := hp
      have hp' : sameFlow f x = true := by simpa using hp0
      rw [he, e0, hp']; simp
    · simp only [hw]; omega
  · simp only [decide_eq_false_iff_not] at hc
    refine wp_pop (wp_ret ⟨r, rfl, ?_, hnew, hk⟩)
    rw [he, drop_none (by omega)]
    simpa [others] using hm

theorem c20 {G H : Claim} {s : Sl} {xs : List D25} (hs : Rows G S25 s xs) (hb : xs.length ≤ big) :
    CallAt cx.P 20 [.slice s.a s.len s.cap] G H .slice (fun r _ H' => Gives G H xs r H') := by
  refine call_of ok Try.func20 (T20_eq s) (wp_lit fun n G' hle hd hgn hhn hat => ?_)
  have hbig : xs.length ≤ 2000000 := hb

  refine wp_append' (sh := S25) (xs := []) (ys := xs) (G0 := G) (H0 := H) rfl (Mine.nil _ _ _ _) (hs.and hle hd) (by show 0 + xs.length ≤ maxLen; simp only [maxLen]; omega) (by show (0 + xs.length) * 72 ≤ _; omega) (by decide) hle (Claim.le_refl _) ?_ ?_
  · rintro b ⟨a, e, rfl⟩
    cases e
    exact ⟨hgn, hhn⟩
  · intro s' H' m1 m2 m3 m4 m5 m6
    exact wp_ret ⟨s', rfl, m1, m3, m4⟩

/-! ### the closures, and the parting -/

theorem p23 {S : Claim} {e x : D25} {p : Addr} (hp : S.at p (S25.flat x)) : PureAt cx.P 23 [S25.enc e, .pointer (some p)] S .bool (sameFlow x.1 e) :=
  pure_of ok Try.func23 (T23_eq e p) (wp_load (r := x.1) (fun _ => by rw [Claim.and_none]; exact flow_at hp) (wp_ret rfl))
theorem p29 {S : Claim} {e : D25} {f : D23} {p : Addr} (hp : S.at p (S23.flat f)) : PureAt cx.P 29 [S25.enc e, .pointer (some p)] S .bool (sameFlow f e) :=
  pure_of ok Try.func29 (T29_eq e p) (wp_load (r := f) (fun _ => by rw [Claim.and_none]; exact hp) (wp_ret rfl))
theorem p31 {S : Claim} {e : D25} {now : Int} {p : Addr} (hp : S.at p [.int .i64 now]) : PureAt cx.P 31 [S25.enc e, .pointer (some p)] S .bool (ran e now) :=
  pure_of ok Try.func31 (T31_eq e p) (wp_load (r := now) (fun _ => by rw [Claim.and_none]; exact hp) (wp_dcall (p27 _) (wp_ret rfl)))

theorem tight {H : Claim} {s : Sl} {xs : List D25} (h : Mine H 26 S25 s xs) (hx : xs ≠ []) : ∀ b, s.in b → H b ≠ none := by
  rintro b ⟨a, e, rfl⟩
  obtain ⟨h1, h2⟩ := h
  rcases h2 with ⟨e1, _⟩ | ⟨g, cur, e1, e2, _⟩
  · have := (Mine.rows (by decide) (show Mine H 26 S25 s xs from ⟨h1, .inl ⟨e1, ‹_›⟩⟩)).len
    rw [e1] at this
    exact absurd (List.eq_nil_of_length_eq_zero this.symm) hx
  · rw [e1] at e
    cases e
    rw [e2]
    simp

structure Gives2 (G H : Claim) (xs ys : List D25) (r t : Sl) (H' : Claim) : Prop where
  m1 : Mine H' 26 S25 r xs
  m2 : Mine H' 26 S25 t ys
  n1 : New G H r
  n2 : New G H t
  t1 : ∀ b, r.in b → H' b ≠ none
  t2 : ∀ b, t.in b → H' b ≠ none
  ap : ∀ b, r.in b → ¬ t.in b
  hk : H.le H'

theorem nil_in {b n c : Nat} (h : (⟨none, n, c⟩ : Sl).in b) : False := by
  obtain ⟨a, e, _⟩ := h
  cases e

def noes (p : D25 → Bool) (xs : List D25) : List D25 := xs.filter fun e => !p e

theorem split_any {G H : Claim} {s : Sl} {xs : List D25} {p : D25 → Bool} {f : FuncId} {a : Value} (hs : Rows G S25 s xs) (hb : xs.length ≤ big)
    (hp : ∀ (G' H' : Claim), G.le G' → G'.disj H' → H.le H' → ∀ e : D25, PureAt cx.P f [S25.enc e, a] (G'.and H') .bool (p e)) :
    (T.loop (.pair .slice (.pair .slice (.pair (.int .i64) .unit))) ((⟨none, 0, 0⟩, (⟨none, 0, 0⟩, ((0 : Int), ()))) : Sl × Sl × Int × Unit) <| fun (v0 : (Sl × (Sl × (Int × Unit)))) =>
      .cond (decide (v0.2.2.1 < (↑s.len : Int))) (
       .must (true = true → (0 : Int) ≤ v0.2.2.1 ∧ v0.2.2.1 < (↑s.len : Int) ∧ s.a.isSome = true) <|
       .load (true) S25 ((s.a.getD { block := 0, off := 0 }).add (v0.2.2.1.toNat * 9)) <| fun (m1 : D25) =>
        .dcall (true) f [S25.enc m1, a] .bool <| fun (r2 : Bool) =>
         .cond (r2) (
          .lit (true) (S25.flat m1) 26 <| fun (n3 : Nat) =>
           .append 26 9 72 v0.1 ⟨(some ⟨n3, 0, none⟩), 1, 1⟩ <| fun (q4 : Sl) =>
            .again (.pair .slice (.pair .slice (.pair (.int .i64) .unit))) ((q4, (v0.2.1, (IntKind.i64.wrap (v0.2.2.1 + (1 : Int)), ()))) : Sl × Sl × Int × Unit)) (
          .lit (true) (S25.flat m1) 26 <| fun (n3 : Nat) =>
           .append 26 9 72 v0.2.1 ⟨(some ⟨n3, 0, none⟩), 1, 1⟩ <| fun (q4 : Sl) =>
            .again (.pair .slice (.pair .slice (.pair (.int .i64) .unit))) ((v0.1, (q4, (IntKind.i64.wrap (v0.2.2.1 + (1 : Int)), ()))) : Sl × Sl × Int × Unit))) (
       .pop <|
       .ret (.tuple #[.slice v0.1.a v0.1.len v0.1.cap, .slice v0.2.1.a v0.2.1.len v0.2.1.cap]))).wp cx.P [] G H
      fun v _ H' => ∃ r : Sl × Sl, v = (Sh.tup (.pair .slice .slice)).enc r ∧ Gives2 G H (xs.filter p) (noes p xs) r.1 r.2 H' := by
  refine wp_loop (fun (v : Sl × Sl × Int × Unit) _ H' => ∃ (i : Nat) (acc acc2 : List D25), v.2.2.1 = i ∧ i ≤ s.len ∧ acc.length ≤ i ∧ acc2.length ≤ i ∧ xs.filter p = acc ++ (xs.drop i).filter p ∧ noes p xs = acc2 ++ noes p (xs.drop i) ∧ Gives2 G H acc acc2 v.1 v.2.1 H') (fun (v : Sl × Sl × Int × Unit) _ _ => s.len - v.2.2.1.toNat)
    ⟨0, [], [], rfl, Nat.zero_le _, Nat.zero_le _, Nat.zero_le _, rfl, rfl, ⟨Mine.nil _ _ _ _, Mine.nil _ _ _ _, New.nil _ _ _ _, New.nil _ _ _ _, fun b h => (nil_in h).elim, fun b h => (nil_in h).elim, fun b h => (nil_in h).elim, Claim.le_refl _⟩⟩ ?_
  rintro ⟨r, t, v, u⟩ G' H' hle hd ⟨i, acc, acc2, rfl, hi, hacc, hacc2, he, he2, hg⟩
  dsimp only at hg ⊢
  have hrow := hs.and hle hd
  have hlen : s.len = xs.length := hs.len
  have hbig : xs.length ≤ 2000000 := hb
  refine wp_cond (fun hc => ?_) (fun hc => ?_)
  · simp only [decide_eq_true_eq] at hc
    obtain ⟨(x : D25), (hx' : xs[i]? = some x), hat⟩ := hrow.get (j := (i : Int)) (by omega) hc
    have hw := wrap_next hc hs.small
    have e1 : (xs.drop i).filter p = (if p x then [x] else []) ++ (xs.drop (i + 1)).filter p := by
      rw [drop_cons hx', List.filter_cons]
      cases p x <;> rfl
    have e2 : noes p (xs.drop i) = (if p x then [] else [x]) ++ noes p (xs.drop (i + 1)) := by
      unfold noes
      rw [drop_cons hx', List.filter_cons]
      cases p x <;> rfl
    refine wp_must (fun _ => ⟨by omega, hc, hrow.some (by omega) hc⟩) (wp_load (r := x) (fun _ => hat) (wp_dcall (hp G' H' hle hd hg.hk x) ?_))
    refine wp_cond (fun hq => ?_) (fun hq => ?_)
    · have hq' : p x = true := hq
      refine wp_push (sh := S25) (x := x) (xs := acc) rfl rfl hg.m1 (by show acc.length + 1 ≤ maxLen; simp only [maxLen]; omega) (by show (acc.length + 1) * 72 ≤ 140737488355328; omega) (by decide) hle hg.hk hg.n1 ?_
      intro G2 s2 H2 g1 m1 m2 m3 m4 m5 m6
      have key : ∀ b, t.in b → H2 b = H' b ∧ ¬ s2.in b := fun b hb => m5 b (fun h => hg.ap b h hb) (hg.t2 b hb)
      refine wp_again ⟨⟨i + 1, acc ++ [x], acc2, hw, by omega, by simp; omega, by omega, ?_, ?_, m1, ?_, m3, hg.n2, tight m1 (show acc ++ [x] ≠ [] from by simp), ?_, ?_, m4⟩, ?_⟩
      · rw [he, e1, hq']; simp
      · rw [he2, e2, hq']; simp
      · exact hg.m2.keep fun b hb _ => (key b hb).1
      · intro b hb
        rw [(key b hb).1]
        exact hg.t2 b hb
      · exact fun b hb hb2 => (key b hb2).2 hb
      · simp only [hw]; omega
    · have hq' : p x = false := hq
      refine wp_push (sh := S25) (x := x) (xs := acc2) rfl rfl hg.m2 (by show acc2.length + 1 ≤ maxLen; simp only [maxLen]; omega) (by show (acc2.length + 1) * 72 ≤ 140737488355328; omega) (by decide) hle hg.hk hg.n2 ?_
      intro G2 s2 H2 g1 m1 m2 m3 m4 m5 m6
      have key : ∀ b, r.in b → H2 b = H' b ∧ ¬ s2.in b := fun b hb => m5 b (hg.ap b hb) (hg.t1 b hb)
      refine wp_again ⟨⟨i + 1, acc, acc2 ++ [x], hw, by omega, by omega, by simp; omega, ?_, ?_, ?_, m1, hg.n1, m3, ?_, tight m1 (show acc2 ++ [x] ≠ [] from by simp), ?_, m4⟩, ?_⟩
      · rw [he, e1, hq']; simp
      · rw [he2, e2, hq']; simp
      · exact hg.m1.keep fun b hb _ => (key b hb).1
      · intro b hb
        rw [(key b hb).1]
        exact hg.t1 b hb
      · exact fun b hb => (key b hb).2
      · simp only [hw]; omega
  · simp only [decide_eq_false_iff_not] at hc
    refine wp_pop (wp_ret ⟨(r, t), rfl, ?_⟩)
    rw [drop_none (by omega)] at he he2
    rw [he, he2]
    simpa [noes] using hg

theorem c22a {G H : Claim} {s : Sl} {xs : List D25} {x : D25} {p : Addr} (hs : Rows G S25 s xs) (hb : xs.length ≤ big) (hp : G.at p (S25.flat x)) :
    CallAt cx.P 22 [.slice s.a s.len s.cap, .func (.func 23) #[] #[.pointer (some p)]] G H (.tup (.pair .slice .slice)) (fun (r : Sl × Sl) _ H' => Gives2 G H (xs.filter (sameFlow x.1)) (noes (sameFlow x.1) xs) r.1 r.2 H') :=
  call_of ok Try.func22 (T22a_eq s p) (split_any hs hb fun _ _ hle hd _ _ => p23 (Claim.at_and hp hle hd))
theorem c22b {G H : Claim} {s : Sl} {xs : List D25} {f : D23} {p : Addr} (hs : Rows G S25 s xs) (hb : xs.length ≤ big) (hp : G.at p (S23.flat f)) :
    CallAt cx.P 22 [.slice s.a s.len s.cap, .func (.func 29) #[] #[.pointer (some p)]] G H (.tup (.pair .slice .slice)) (fun (r : Sl × Sl) _ H' => Gives2 G H (xs.filter (sameFlow f)) (noes (sameFlow f) xs) r.1 r.2 H') :=
  call_of ok Try.func22 (T22b_eq s p) (split_any hs hb fun _ _ hle hd _ _ => p29 (Claim.at_and hp hle hd))
theorem c22c {G H : Claim} {s : Sl} {xs : List D25} {now : Int} {p : Addr} (hs : Rows G S25 s xs) (hb : xs.length ≤ big) (hp : G.at p [.int .i64 now]) :
    CallAt cx.P 22 [.slice s.a s.len s.cap, .func (.func 31) #[] #[.pointer (some p)]] G H (.tup (.pair .slice .slice)) (fun (r : Sl × Sl) _ H' => Gives2 G H (xs.filter fun e => ran e now) (noes (fun e => ran e now) xs) r.1 r.2 H') :=
  call_of ok Try.func22 (T22c_eq s p) (split_any hs hb fun _ _ hle hd _ _ => p31 (Claim.at_and hp hle hd))

/-! ### Put, Drop, Sweep -/

def zeroE : D25 := ((0, 0, 0, 0, 0), 0, false, 0, 0)

/-- what is owned at a place may be known for good -/
theorem wp_freeze_call {P : Program} {E : Env} {G H : Claim} {Q : Value → Claim → Claim → Prop} {f : FuncId} {args : List Value} {sh : Sh} {k : sh.den → T} {R : sh.den → Claim → Claim → Prop} {n : Nat} {o : Obj} (hd : G.disj H) (hn : H n = some o)
    (hp : CallAt P f args (G.upd n o) (H.del n) sh R) (h : ∀ r G' H', (G.upd n o).le G' → G'.disj H' → R r G' H' → (k r).wp P E G' H' Q) : (T.call f args sh k).wp P E G H Q := by
  refine ⟨fun r G' H' => R r G' H' ∧ (G.upd n o).le G', ?_, fun r G' H' _ d hR => h r G' H' hR.2 d hR.1⟩
  intro c hg hh hd' hm
  have F := Frz.of hd n hn
  have hg' : (G.upd n o).holds c := by
    intro b o' e
    rcases F.sub b o' e with e | e
    · exact hg b o' e
    · exact hh b o' e
  refine (hp c hg' (fun b o e => hh b o (F.hle b o e)) F.disj (fun b o e => hm b o (F.hle b o e))).mono ?_
  rintro e c' ⟨r, G2, H2, rfl, i, hR⟩
  exact ⟨r, G2, H2, rfl, F.inv i, hR, i.mono⟩

def drop_ (xs : List D25) (f : D23) : List D25 × Int := bif cacheMay xs then (noes (sameFlow f) xs, 0) else ([], 1600)

theorem c9 {G H : Claim} {s : Sl} {xs : List D25} {f : D23} (hs : Rows G S25 s xs) (hb : xs.length ≤ big) (hd : G.disj H) :
    CallAt cx.P 9 [.slice s.a s.len s.cap, S23.enc f] G H (.tup (.pair .slice (.int .i64))) (fun (r : Sl × Int) _ H' => Gives G H (drop_ xs f).1 r.1 H' ∧ r.2 = (drop_ xs f).2) := by
  refine call_of ok Try.func9 (T9_eq s f) (wp_new fun n hg hh => ?_)
  have hd' := disj_upd (o := .cells (S23.flat f).toArray 24 (0, 0)) hd hg
  refine wp_dcall (p15 (hs.and (Claim.le_refl _) hd')) ?_
  unfold drop_
  cases hm : cacheMay xs
  · exact wp_cond (fun _ => wp_ret ⟨(⟨none, 0, 0⟩, (1600 : Int)), rfl, ⟨Mine.nil _ _ _ _, New.nil _ _ _ _, fun b o e => by
      rw [Claim.upd_ne _ _ (fun h => by rw [h, hh] at e; cases e)]; exact e⟩, rfl⟩) (fun h => by cases h)
  · refine wp_cond (fun h => by cases h) (fun _ => ?_)
    have hle : G.le (G.upd n (.cells (S23.flat f).toArray 24 (0, 0))) := fun b o e => by
      rw [Claim.upd_ne _ _ (fun h => by rw [h, hg] at e; cases e)]; exact e
    have hkeep : H.le ((H.upd n (.cells (S23.flat f).toArray 24 (0, 0))).del n) := fun b o e => by
      have hb : b ≠ n := fun h => by rw [h, hh] at e; cases e
      rw [Claim.del_ne _ hb, Claim.upd_ne _ _ hb]
      exact e
    refine wp_freeze_call hd' (Claim.upd_same _ _ _) (c22b (hs.le hle) hb (upd_at _ _ _ _ _)) ?_
    rintro ⟨r, t⟩ G' H' hle2 hdd hg2
    exact wp_ret ⟨(t, (0 : Int)), rfl, ⟨hg2.m2, hg2.n2.le hle hkeep, Claim.le_trans hkeep hg2.hk⟩, rfl⟩

theorem le_upd {G : Claim} {n : Nat} {o : Obj} (h : G n = none) : G.le (G.upd n o) := fun b o' e => by
  rw [Claim.upd_ne _ _ (fun h' => by rw [h', h] at e; cases e)]; exact e
theorem le_upd_del {H : Claim} {n : Nat} {o : Obj} (h : H n = none) : H.le ((H.upd n o).del n) := fun b o' e => by
  have hb : b ≠ n := fun h' => by rw [h', h] at e; cases e
  rw [Claim.del_ne _ hb, Claim.upd_ne _ _ hb]
  exact e

def sweep (xs : List D25) (now : Int) : List D25 × List D25 × Int :=
  bif cacheMay xs && timeMay now then (noes (fun e => ran e now) xs, xs.filter (fun e => ran e now), 0) else ([], [], 1600)

theorem c11 {G H : Claim} {s : Sl} {xs : List D25} {now : Int} (hs : Rows G S25 s xs) (hb : xs.length ≤ big) (hd : G.disj H) :
    CallAt cx.P 11 [.slice s.a s.len s.cap, .int .i64 now] G H (.tup (.pair .slice (.pair .slice (.int .i64))))
      (fun (r : Sl × Sl × Int) _ H' => Gives2 G H (sweep xs now).1 (sweep xs now).2.1 r.1 r.2.1 H' ∧ r.2.2 = (sweep xs now).2.2) := by
  refine call_of ok Try.func11 (T11_eq s now) (wp_new fun n hg hh => ?_)
  have hd' := disj_upd (o := .cells [Value.int .i64 now].toArray 3 (0, 0)) hd hg
  refine wp_dcall (p15 (hs.and (Claim.le_refl _) hd')) (wp_load (r := now) (fun _ => Claim.at_le (Claim.le_and_right _ _) (upd_at _ _ _ _ _)) (wp_dcall (p30 _) ?_))
  unfold sweep
  cases hm : cacheMay xs && timeMay now
  · have hc : (bif !cacheMay xs then true else !timeMay now) = true := by
      cases h1 : cacheMay xs <;> cases h2 : timeMay now <;> simp_all
    refine wp_cond (fun _ => wp_ret ⟨(⟨none, 0, 0⟩, ⟨none, 0, 0⟩, (1600 : Int)), rfl, ⟨Mine.nil _ _ _ _, Mine.nil _ _ _ _, New.nil _ _ _ _, New.nil _ _ _ _, fun b h => (nil_in h).elim, fun b h => (nil_in h).elim, fun b h => (nil_in h).elim, le_upd hh⟩, rfl⟩) (fun h => ?_)
    have h' : (bif !cacheMay xs then true else !timeMay now) = false := h
    rw [hc] at h'; cases h'
  · have hc : (bif !cacheMay xs then true else !timeMay now) = false := by
      cases h1 : cacheMay xs <;> cases h2 : timeMay now <;> simp_all
    refine wp_cond (fun h => ?_) (fun _ => ?_)
    · have h' : (bif !cacheMay xs then true else !timeMay now) = true := h
      rw [hc] at h'; cases h'
    refine wp_freeze_call hd' (Claim.upd_same _ _ _) (c22c (hs.le (le_upd hg)) hb (upd_at _ _ _ _ _)) ?_
    rintro ⟨r, t⟩ G' H' hle2 hdd hg2
    have hkeep := le_upd_del (o := .cells [Value.int .i64 now].toArray 3 (0, 0)) hh
    exact wp_ret ⟨(t, r, (0 : Int)), rfl, ⟨hg2.m2, hg2.m1, hg2.n2.le (le_upd hg) hkeep, hg2.n1.le (le_upd hg) hkeep, hg2.t2, hg2.t1, fun b h1 h2 => hg2.ap b h2 h1, Claim.le_trans hkeep hg2.hk⟩, rfl⟩

/-! ### rows that may begin inside a block -/

/-- the row is owned, wherever it begins -/
def MineO (H : Claim) (s : Sl) (xs : List D25) : Prop :=
  s.len = xs.length ∧ s.len ≤ maxLen ∧ (xs ≠ [] → ∃ g off cur, s.a = some ⟨g, off, none⟩ ∧ H g = some (.cells cur 26 (0, 0)) ∧ (cur.toList.drop off).take (xs.length * 9) = xs.flatMap S25.flat)

theorem Mine.o {H : Claim} {s : Sl} {xs : List D25} (h : Mine H 26 S25 s xs) : MineO H s xs := by
  have hr := h.rows (by decide)
  refine ⟨hr.len, hr.small, fun hx => ?_⟩
  have hl : s.len = xs.length := hr.len
  obtain ⟨h1, h2⟩ := h
  rcases h2 with ⟨e1, _⟩ | ⟨g, cur, e1, e2, e3, e4, e5, e6⟩
  · exact absurd (List.eq_nil_of_length_eq_zero (by omega)) hx
  · refine ⟨g, 0, cur, e1, e2, ?_⟩
    rw [List.drop_zero, ← hl]
    exact e6

theorem MineO.rows {H : Claim} {s : Sl} {xs : List D25} (h : MineO H s xs) : Rows H S25 s xs := by
  obtain ⟨h1, h2, h3⟩ := h
  refine ⟨h1, h2, fun hx => ?_⟩
  obtain ⟨g, off, cur, e1, e2, e3⟩ := h3 hx
  refine ⟨_, e1, fun i v hv => ?_⟩
  rw [Addr.add_mk]
  unfold Claim.cell?
  simp only [e2, Option.isSome_none, Bool.false_eq_true, if_false]
  have hv' : (xs.flatMap S25.flat)[i]? = some v := hv
  rw [← e3, List.getElem?_take] at hv'
  split at hv'
  · rw [List.getElem?_drop] at hv'
    simpa using hv'
  · cases hv'

/-- without the first -/
theorem Mine.tail {H : Claim} {s : Sl} {x : D25} {xs : List D25} (h : Mine H 26 S25 s (x :: xs)) (hx : xs ≠ []) :
    MineO H ⟨if s.cap = 1 then s.a else Option.map (fun x => x.add 9) s.a, s.len - 1, s.cap - 1⟩ xs := by
  have hl : s.len = xs.length + 1 := (h.rows (by decide)).len
  have hsm := (h.rows (by decide)).small
  refine ⟨by simp only; omega, by simp only; omega, fun _ => ?_⟩
  obtain ⟨h1, h2⟩ := h
  rcases h2 with ⟨e1, _⟩ | ⟨g, cur, e1, e2, e3, e4, e5, e6⟩
  · omega
  · have hpos : 0 < xs.length := List.length_pos_iff.2 hx
    have hcap : ¬ s.cap = 1 := by omega
    refine ⟨g, 9, cur, ?_, e2, ?_⟩
    · simp only [hcap, if_false, e1, Option.map_some, Addr.add_mk, Nat.zero_add]
    · rw [hl] at e6
      have e7 : cur.toList.take ((xs.length + 1) * 9) = S25.flat x ++ xs.flatMap S25.flat := e6
      have e8 : (S25.flat x).length = 9 := Sh.flat_length S25 x
      have e9 : (cur.toList.take ((xs.length + 1) * 9)).drop 9 = xs.flatMap S25.flat := by
        rw [e7, ← e8, List.drop_left]
      rw [← e9, List.drop_take]
      congr 1
      omega

structure GivesO (G H : Claim) (xs : List D25) (r : Sl) (H' : Claim) : Prop where
  m : MineO H' r xs
  n : New G H r
  t : ∀ b, r.in b → H' b ≠ none
  hk : H.le H'

def put (xs : List D25) (e : D25) : List D25 × D25 × Bool × Int :=
  bif cacheMay xs && entryMay e then
    (match decide ((noes (sameFlow e.1) xs ++ [e]).length > 8) with
    | true => ((noes (sameFlow e.1) xs ++ [e]).drop 1, (noes (sameFlow e.1) xs ++ [e]).headD zeroE, true, 0)
    | false => (noes (sameFlow e.1) xs ++ [e], zeroE, false, 0))
  else ([], zeroE, false, 1600)

theorem noes_length (p : D25 → Bool) (xs : List D25) : (noes p xs).length ≤ xs.length := List.length_filter_le _ _

theorem c5 {G H : Claim} {s : Sl} {xs : List D25} {e : D25} (hs : Rows G S25 s xs) (hb : xs.length ≤ big) (hd : G.disj H) :
    CallAt cx.P 5 [.slice s.a s.len s.cap, S25.enc e] G H (.tup (.pair .slice (.pair S25 (.pair .bool (.int .i64)))))
      (fun (r : Sl × D25 × Bool × Int) _ H' => GivesO G H (put xs e).1 r.1 H' ∧ r.2 = (put xs e).2) := by
  refine call_of ok Try.func5 (T5_eq s e) (wp_new fun n hg hh => ?_)
  have hbig : xs.length ≤ 2000000 := hb
  have hd' := disj_upd (o := .cells (S25.flat e).toArray 26 (0, 0)) hd hg
  refine wp_dcall (p15 (hs.and (Claim.le_refl _) hd')) (wp_load (r := e) (fun _ => Claim.at_le (Claim.le_and_right _ _) (upd_at _ _ _ _ _)) (wp_dcall (p21 _ (e := e)) ?_))
  unfold put
  cases hm : cacheMay xs && entryMay e
  · have hc : (bif !cacheMay xs then true else !entryMay e) = true := by
      cases h1 : cacheMay xs <;> cases h2 : entryMay e <;> simp_all
    refine wp_cond (fun _ => wp_ret ⟨(⟨none, 0, 0⟩, zeroE, false, (1600 : Int)), rfl, ⟨Mine.o (Mine.nil _ 26 S25 none), New.nil _ _ _ _, fun b h => (nil_in h).elim, le_upd hh⟩, rfl⟩) (fun h => ?_)
    have h' : (bif !cacheMay xs then true else !entryMay e) = false := h
    rw [hc] at h'; cases h'
  · have hc : (bif !cacheMay xs then true else !entryMay e) = false := by
      cases h1 : cacheMay xs <;> cases h2 : entryMay e <;> simp_all
    refine wp_cond (fun h => ?_) (fun _ => ?_)
    · have h' : (bif !cacheMay xs then true else !entryMay e) = true := h
      rw [hc] at h'; cases h'
    refine wp_freeze_call hd' (Claim.upd_same _ _ _) (c22a (hs.le (le_upd hg)) hb (upd_at _ _ _ _ _)) ?_
    rintro ⟨r, t⟩ G' H' hle2 hdd hg2
    have hkeep := le_upd_del (o := .cells (S25.flat e).toArray 26 (0, 0)) hh
    have hnl := noes_length (sameFlow e.1) xs
    refine wp_load (r := e) (fun _ => Claim.at_le (Claim.le_and_left _ _ hdd) (Claim.at_le hle2 (upd_at _ _ _ _ _))) ?_
    refine wp_push (sh := S25) (x := e) (xs := noes (sameFlow e.1) xs) (G0 := G) (H0 := H) rfl rfl hg2.m2 (by show (noes (sameFlow e.1) xs).length + 1 ≤ maxLen; simp only [maxLen]; omega)
      (by show ((noes (sameFlow e.1) xs).length + 1) * 72 ≤ 140737488355328; omega) (by decide) (Claim.le_trans (le_upd hg) hle2) (Claim.le_trans hkeep hg2.hk) (hg2.n2.le (le_upd hg) hkeep) ?_
    intro G2 q H2 g1 m1 m2 m3 m4 m5 m6
    have hm1 : Mine H2 26 S25 q (noes (sameFlow e.1) xs ++ [e]) := m1
    have hql : q.len = (noes (sameFlow e.1) xs ++ [e]).length := (hm1.rows (by decide)).len
    have htq := tight hm1 (by simp)
    cases hout : noes (sameFlow e.1) xs ++ [e] with
    | nil => simp at hout
    | cons y ys =>
      rw [hout] at hm1 hql
      refine wp_cond (fun h => ?_) (fun h => ?_)
      · have h8 : 8 < ys.length + 1 := by
          simp only [decide_eq_true_eq] at h
          simp only [List.length_cons] at hql
          omega
        have hrow : Rows (G2.and H2) S25 q (y :: ys) := (hm1.rows (by decide)).le (Claim.le_and_right _ _)
        have hlq : q.len = ys.length + 1 := hql
        obtain ⟨(z : D25), (hz : (y :: ys)[0]? = some z), hat⟩ := hrow.get (j := 0) (by omega) (by omega)
        have hzy : z = y := (Option.some.inj hz).symm
        subst hzy
        have hne : ys ≠ [] := by rintro rfl; simp at h8
        have hq1 : (1 : Int) ≤ (q.len : Int) := by omega
        have hq0 : (0 : Int) < (q.len : Int) := by omega
        refine wp_must (fun _ => ⟨trivial, by decide, hq1⟩) (wp_must (fun _ => ⟨by decide, hq0, hrow.some (by decide) hq0⟩) (wp_load (r := z) (fun _ => hat) (wp_ret ⟨((⟨if q.cap = 1 then q.a else Option.map (fun x => x.add 9) q.a, q.len - 1, q.cap - 1⟩ : Sl), z, true, (0 : Int)), rfl, ?_, ?_⟩)))
        · have hdec : decide ((z :: ys).length > 8) = true := by simpa using h8
          simp only [cond_true, hdec]
          refine ⟨Mine.tail hm1 hne, ?_, ?_, m4⟩
          · rintro b ⟨a, ha, rfl⟩
            obtain ⟨a', ha', hb'⟩ : ∃ a', q.a = some a' ∧ a'.block = a.block := by
              have ha2 : (if q.cap = 1 then q.a else Option.map (fun x => x.add 9) q.a) = some a := ha
              split at ha2
              · exact ⟨a, ha2, rfl⟩
              · cases hqa : q.a with
                | none => rw [hqa] at ha2; cases ha2
                | some a' =>
                  rw [hqa] at ha2
                  simp only [Option.map_some, Option.some.injEq] at ha2
                  exact ⟨a', rfl, by rw [← ha2]; simp [Addr.add]⟩
            exact m3 _ ⟨a', ha', hb'⟩
          · rintro b ⟨a, ha, rfl⟩
            obtain ⟨a', ha', hb'⟩ : ∃ a', q.a = some a' ∧ a'.block = a.block := by
              have ha2 : (if q.cap = 1 then q.a else Option.map (fun x => x.add 9) q.a) = some a := ha
              split at ha2
              · exact ⟨a, ha2, rfl⟩
              · cases hqa : q.a with
                | none => rw [hqa] at ha2; cases ha2
                | some a' =>
                  rw [hqa] at ha2
                  simp only [Option.map_some, Option.some.injEq] at ha2
                  exact ⟨a', rfl, by rw [← ha2]; simp [Addr.add]⟩
            exact htq _ ⟨a', ha', hb'⟩
        · have hdec : decide ((z :: ys).length > 8) = true := by simpa using h8
          simp only [cond_true, hdec, List.headD_cons]
          rfl
      · have h8 : ¬ 8 < ys.length + 1 := by
          simp only [decide_eq_false_iff_not] at h
          simp only [List.length_cons] at hql
          omega
        have hdec : decide ((y :: ys).length > 8) = false := by simpa using h8
        refine wp_ret ⟨(q, zeroE, false, (0 : Int)), rfl, ?_, ?_⟩
        · simp only [cond_true, hdec]
          exact ⟨Mine.o hm1, m3, htq, m4⟩
        · simp only [cond_true, hdec]
          rfl
end Go.Ev.Cache
