/- The statement Caches. -/
import Derived.Test.YtcneiffdekbmnaacAwake
namespace Go.Ev.Cache
open Go Go.Ev Go.Proofs

theorem Mine.mineO {H : Claim} {s : Sl} {xs : List D25} (h : Mine H 26 S25 s xs) : MineO H s xs := Mine.o h

/-- what is written over; nothing, if there is nothing -/
def SpoiltX (H : Claim) (s : Sl) (xs : List D25) (H' : Claim) : Prop := ∀ b, (s.in b → xs = []) → H' b = H b

theorem c17e {G H : Claim} {s : Sl} (hs : MineO H s []) : CallAt cx.P 17 [.slice s.a s.len s.cap] G H (.tup .unit) (fun _ _ H' => H' = H) := by
  have hl : s.len = 0 := hs.1
  refine call_of ok Try.func17 (T17_eq s) ?_
  refine wp_loop (fun (v : Int × Unit) G' H' => v.1 = 0 ∧ H' = H) (fun _ _ _ => 0) ⟨rfl, rfl⟩ ?_
  rintro ⟨v, u⟩ G' H' hle hdd ⟨rfl, rfl⟩
  dsimp only
  refine wp_cond (fun hc => ?_) (fun hc => wp_pop (wp_ret ⟨(), rfl, rfl⟩))
  simp [hl] at hc

theorem c17x {G H : Claim} {s : Sl} {xs : List D25} (hs : MineO H s xs) (hd : G.disj H) : CallAt cx.P 17 [.slice s.a s.len s.cap] G H (.tup .unit) (fun _ _ H' => SpoiltX H s xs H') := by
  by_cases hx : xs = []
  · subst hx
    intro c hg hh hd hm
    refine (c17e hs c hg hh hd hm).mono ?_
    rintro e c' ⟨r, G', H', rfl, i, rfl⟩
    exact ⟨r, G', _, rfl, i, fun b _ => rfl⟩
  · intro c hg hh hd hm
    refine (c17 hs hd c hg hh hd hm).mono ?_
    rintro e c' ⟨r, G', H', rfl, i, k⟩
    exact ⟨r, G', H', rfl, i, fun b hb => k.other b fun h => hx (hb h)⟩

/-- what is written over elsewhere -/
theorem MineO.spoilt {H H' : Claim} {s t : Sl} {xs ys : List D25} (h : MineO H s xs) (k : SpoiltX H t ys H') (ap : ∀ b, s.in b → t.in b → ys = []) : MineO H' s xs := by
  obtain ⟨h1, h2, h3⟩ := h
  refine ⟨h1, h2, fun hx => ?_⟩
  obtain ⟨g, off, cur, e1, e2, e3⟩ := h3 hx
  exact ⟨g, off, cur, e1, by rw [k g (ap g ⟨_, e1, rfl⟩)]; exact e2, e3⟩

theorem new_apart {G H : Claim} {s t : Sl} (hn : New G H t) (ht : ∀ b, s.in b → H b ≠ none) : ∀ b, t.in b → ¬ s.in b := fun b h1 h2 => ht b h2 (hn b h1).2

theorem MineO.tight {H : Claim} {s : Sl} {xs : List D25} (h : MineO H s xs) (hx : xs ≠ []) : ∀ b, s.in b → H b ≠ none := by
  rintro b ⟨a, e, rfl⟩
  obtain ⟨h1, h2, h3⟩ := h
  obtain ⟨g, off, cur, e1, e2, e3⟩ := h3 hx
  rw [e1] at e
  cases e
  rw [e2]; simp

theorem c3 {W : World} {x0 : Sl} {xs : List D25} {e : D25} {f : D23} {now : Int} (hs : Rows (Claim.of W) S25 x0 xs) (hb : xs.length ≤ big) (h1 : now < 9223372036854775808) (h2 : -9223372036854775808 ≤ now) :
    CallAt cx.P 3 [.slice x0.a x0.len x0.cap, S25.enc e, S23.enc f, .int .i64 now] (Claim.of W) Claim.none .bool (fun r _ _ => r = true) := by
  refine call_of ok Try.func3 (T3_eq x0 e f now) ?_
  refine wp_call (c4 hs hb) ?_
  intro r0 G0 H0 g0 d0 m0
  obtain ⟨q, hq, er⟩ := m0.m
  have hqne : xs ++ [mark, mark] ≠ [] := by simp
  have hcap : q.len ≤ q.cap := by
    have hql : q.len = (xs ++ [mark, mark]).length := (hq.rows (by decide)).len
    simp only [List.length_append, List.length_cons, List.length_nil] at hql
    rcases hq.2 with ⟨e1, _⟩ | ⟨g, cur, e1, e2, e3, _⟩
    · omega
    · exact e3
  obtain ⟨n0, o0, f0, w0⟩ := (Mine.o hq).freeze (G := G0) hqne
  have F0 := Frz.of d0 n0 f0
  have hx : Rows (G0.upd n0 o0) S25 x0 xs := (hs.le g0).le F0.le
  have hr : Rows (G0.upd n0 o0) S25 r0 xs := by rw [er]; exact Rows.front w0
  refine wp_freeze_call_at d0 f0 (c5 (e := e) hr hb F0.disj) rfl ?_
  rintro ⟨q1, r1⟩ G1 H1 g1 d1 ⟨m1, e1⟩
  dsimp only at m1 e1 ⊢
  refine wp_call (c6 (e := e) (hx.le g1) hb d1) ?_
  rintro ⟨q2, r2⟩ G2 H2 g2 d2 ⟨m2, e2⟩
  dsimp only at m2 e2 ⊢
  have hx2 := (hx.le g1).le g2
  have hr2 := (hr.le g1).le g2
  refine wp_dcall (p7 (f := f) (now := now) (hr2.and (Claim.le_refl _) d2)) (wp_dcall (p8 (f := f) (now := now) (hx2.and (Claim.le_refl _) d2) h1 h2) ?_)
  refine wp_call (c9 (f := f) hr2 hb d2) ?_
  rintro ⟨q5, r5⟩ G5 H5 g5 d5 ⟨m5, e5⟩
  dsimp only at m5 e5 ⊢
  refine wp_call (c10 (f := f) (hx2.le g5) hb d5) ?_
  rintro ⟨q6, r6⟩ G6 H6 g6 d6 ⟨m6, e6⟩
  dsimp only at m6 e6 ⊢
  refine wp_call (c11 (now := now) (hr2.le (Claim.le_trans g5 g6)) hb d6) ?_
  rintro ⟨q7, t7, r7⟩ G7 H7 g7 d7 ⟨m7, e7⟩
  dsimp only at m7 e7 ⊢
  refine wp_call (c12 (now := now) (hx2.le (Claim.le_trans g5 (Claim.le_trans g6 g7))) hb d7 h1 h2) ?_
  rintro ⟨q8, t8, r8⟩ G8 H8 g8 d8 ⟨m8, e8⟩
  dsimp only at m8 e8 ⊢
  subst e1 e2 e5 e6 e7 e8
  have hx8 := hx2.le (Claim.le_trans g5 (Claim.le_trans g6 (Claim.le_trans g7 g8)))
  have hr8 := hr2.le (Claim.le_trans g5 (Claim.le_trans g6 (Claim.le_trans g7 g8)))
  have w8 : Rows G8 S25 q (xs ++ [mark, mark]) := w0.le (Claim.le_trans g1 (Claim.le_trans g2 (Claim.le_trans g5 (Claim.le_trans g6 (Claim.le_trans g7 g8)))))
  have k78 : H7.le H8 := m8.hk
  have k68 := Claim.le_trans m7.hk k78
  have k58 := Claim.le_trans m6.2.2 k68
  have k28 := Claim.le_trans m5.2.2 k58
  have k18 := Claim.le_trans m2.hk k28
  have o1 : MineO H8 q1 (put xs e).1 := m1.m.le k18
  have o2 : MineO H8 q2 (put xs e).1 := (Mine.o m2.m).le k28
  have o5 : MineO H8 q5 (drop_ xs f).1 := (Mine.o m5.1).le k58
  have o6 : MineO H8 q6 (drop_ xs f).1 := (Mine.o m6.1).le k68
  have o7 : MineO H8 q7 (sweep xs now).1 := (Mine.o m7.m1).le k78
  have o7' : MineO H8 t7 (sweep xs now).2.1 := (Mine.o m7.m2).le k78
  have o8 : MineO H8 q8 (sweep xs now).1 := Mine.o m8.m1
  have o8' : MineO H8 t8 (sweep xs now).2.1 := Mine.o m8.m2
  have L : H8.le (G8.and H8) := Claim.le_and_right _ _
  have s1 := (p13 (o1.rows.le L) (o2.rows.le L)).eq (same_self _)
  have s5 := (p13 (o5.rows.le L) (o6.rows.le L)).eq (same_self _)
  have s7 := (p13 (o7.rows.le L) (o8.rows.le L)).eq (same_self _)
  have s7' := (p13 (o7'.rows.le L) (o8'.rows.le L)).eq (same_self _)
  refine wp_dcall s1 (wp_dcall p14 (wp_dcall s5 (wp_dcall p14 (wp_dcall s7 (wp_dcall s7' (wp_dcall p14 (wp_dcall (p15 (hr8.and (Claim.le_refl _) d8)) (wp_dcall (p16 (hx8.and (Claim.le_refl _) d8)) ?_))))))))
  refine wp_cond (fun hc => ?_) (fun _ => ?_)
  · exfalso
    have r1 : eqDen S25 (put xs e).2.1 (put xs e).2.1 = true := (eqDen_iff (s := S25) (by decide) (a := (put xs e).2.1) (b := (put xs e).2.1)).2 rfl
    have r2 : eqDen S25 (find xs f now).1 (find xs f now).1 = true := (eqDen_iff (s := S25) (by decide) (a := (find xs f now).1) (b := (find xs f now).1)).2 rfl
    simp [r1, r2] at hc
  · -- what stands apart from the rows that are written over
    have keep : ∀ {A B : Claim} {b : Nat}, A b ≠ none → A.le B → B b ≠ none := fun {A B b} h l => by
      cases e : A b with
      | none => exact absurd e h
      | some o => rw [l b o e]; simp
    have a51 : ∀ b, q5.in b → q1.in b → (put xs e).1 = [] := fun b h5 h1 => absurd (m5.2.1 b h5).2 (keep (m1.t b h1) m2.hk)
    have st1 : ∀ b, q1.in b → H6 b ≠ none := fun b hb => keep (m1.t b hb) (Claim.le_trans m2.hk (Claim.le_trans m5.2.2 m6.2.2))
    have a71 : ∀ b, q7.in b → q1.in b → (put xs e).1 = [] := fun b h7 h1 => absurd (m7.n1 b h7).2 (st1 b h1)
    have a71' : ∀ b, t7.in b → q1.in b → (put xs e).1 = [] := fun b h7 h1 => absurd (m7.n2 b h7).2 (st1 b h1)
    have st5 : ∀ b, q5.in b → (drop_ xs f).1 ≠ [] → H6 b ≠ none := fun b hb hne => keep (tight m5.1 hne b hb) m6.2.2
    have a75 : ∀ b, q7.in b → q5.in b → (drop_ xs f).1 = [] := fun b h7 h5 => Decidable.byContradiction fun hne => st5 b h5 hne (m7.n1 b h7).2
    have a75' : ∀ b, t7.in b → q5.in b → (drop_ xs f).1 = [] := fun b h7 h5 => Decidable.byContradiction fun hne => st5 b h5 hne (m7.n2 b h7).2
    have a77 : ∀ b, t7.in b → q7.in b → (sweep xs now).1 = [] := fun b h7' h7 => absurd h7' (m7.ap b h7)
    refine wp_call (c17x o1 d8) ?_
    intro u1 G9 H9 g9 d9 p9
    have k5 := o5.spoilt p9 a51
    have k7 := o7.spoilt p9 a71
    have k7' := o7'.spoilt p9 a71'
    refine wp_call (c17x k5 d9) ?_
    intro u2 G10 H10 g10 d10 p10
    have l7 := k7.spoilt p10 a75
    have l7' := k7'.spoilt p10 a75'
    refine wp_call (c17x l7 d10) ?_
    intro u3 G11 H11 g11 d11 p11
    have j7' := l7'.spoilt p11 a77
    refine wp_call (c17x j7' d11) ?_
    intro u4 G12 H12 g12 d12 p12
    have gg := Claim.le_trans g9 (Claim.le_trans g10 (Claim.le_trans g11 g12))
    have h18 := p18 ((w8.le gg).and (Claim.le_refl _) d12) hcap ((hx8.le gg).and (Claim.le_refl _) d12) hb
    rw [er]
    exact wp_dcall h18 (wp_dcall p19 (wp_ret ⟨true, rfl, rfl⟩))
theorem under22 : cx.under 22 = .slice 26 := by kernel_rfl
theorem okT22 : okT cx 12 22 = true := by kernel_rfl
theorem okT26 : okT cx 12 26 = true := by kernel_rfl
theorem okT24 : okT cx 12 24 = true := by kernel_rfl
theorem open22 {S : Claim} {v : Value} {n : Nat} : (∃ (s : Sl) (xs : List (cx.shape 11 26).den), v = .slice s.a s.len s.cap ∧ s.len ≤ s.cap ∧ s.cap ≤ maxLen ∧ Rows S (cx.shape 11 26) s xs ∧ xs.length + 1 ≤ n) =
    (∃ (s : Sl) (xs : List D25), v = .slice s.a s.len s.cap ∧ s.len ≤ s.cap ∧ s.cap ≤ maxLen ∧ Rows S S25 s xs ∧ xs.length + 1 ≤ n) := by kernel_rfl
theorem open26 {v : Value} : (∃ y : (cx.shp 26).den, v = (cx.shp 26).enc y) = (∃ y : D25, v = S25.enc y) := by kernel_rfl
theorem open24 {v : Value} : (∃ y : (cx.shp 24).den, v = (cx.shp 24).enc y) = (∃ y : D23, v = S23.enc y) := by kernel_rfl

def zeroF : D23 := (0, 0, 0, 0, 0)
end Go.Ev.Cache
