/- The document's Put. -/
import Derived.Test.YtcneiffdekbmnaacRef
namespace Go.Ev.Cache
open Go Go.Ev Go.Proofs

structure GivesM (G H : Claim) (xs : List D25) (r : Sl) (H' : Claim) : Prop where
  m : Mine H' 26 S25 r xs
  n : New G H r
  hk : H.le H'

def putOut (out : List D25) : List D25 × D25 × Bool × Int :=
  match decide (out.length > 8) with
  | true => (out.drop 1, out.headD zeroE, true, 0)
  | false => (out, zeroE, false, 0)

theorem put_tail {G0 H0 G H : Claim} {q4 : Sl} {out : List D25} (hne : out ≠ []) (hlen : out.length ≤ 2000001) (hd : G.disj H) (hg : G0.le G) (hm : GivesM G0 H0 out q4 H) :
    (T.cond (decide ((↑q4.len : Int) > (8 : Int))) (
         .must (true = true → True ∧ (0 : Int) ≤ (1 : Int) ∧ (1 : Int) ≤ (↑q4.len : Int)) <|
         .must (true = true → (0 : Int) ≤ (0 : Int) ∧ (0 : Int) < (↑q4.len : Int) ∧ q4.a.isSome = true) <|
         .loadG (true) S25 ((q4.a.getD { block := 0, off := 0 }).add (Int.toNat (0 : Int) * 9)) <| fun (m5 : D25) =>
          .lit (true) [] 26 <| fun (n6 : Nat) =>
           .append 26 9 72 ⟨(some ⟨n6, 0, none⟩), 0, 0⟩ ⟨(if q4.cap = Int.toNat (1 : Int) then q4.a else Option.map (fun x => x.add (Int.toNat (1 : Int) * 9)) q4.a), q4.len - Int.toNat (1 : Int), q4.cap - Int.toNat (1 : Int)⟩ <| fun (q7 : Sl) =>
            .ret (.tuple #[.slice q7.a q7.len q7.cap, S25.enc m5, .bool true, .int .i64 ((0 : Int))])) (
         .ret (.tuple #[.slice q4.a q4.len q4.cap, .agg #[.int .i64 ((0 : Int)), .int .i64 ((0 : Int)), .int .i64 ((0 : Int)), .int .i64 ((0 : Int)), .int .i64 ((0 : Int)), .int .i64 ((0 : Int)), .bool false, .int .i64 ((0 : Int)), .int .i64 ((0 : Int))], .bool false, .int .i64 ((0 : Int))]))).wp cx.P [] G H
      fun v _ H' => ∃ r : Sl × D25 × Bool × Int, v = (Sh.tup (.pair .slice (.pair S25 (.pair .bool (.int .i64))))).enc r ∧
        GivesM G0 H0 (putOut out).1 r.1 H' ∧ r.2 = (putOut out).2 := by
  have hql : q4.len = out.length := (hm.m.rows (by decide)).len
  refine wp_cond (fun h => ?_) (fun h => ?_)
  · have h8 : 8 < out.length := by simp only [decide_eq_true_eq] at h; omega
    obtain ⟨y, ys, rfl⟩ : ∃ y ys, out = y :: ys := by
      cases out with
      | nil => exact absurd rfl hne
      | cons y ys => exact ⟨y, ys, rfl⟩
    have hys : ys ≠ [] := by rintro rfl; simp at h8
    have hq0 : (0 : Int) < (q4.len : Int) := by omega
    obtain ⟨h1, h2⟩ := hm.m
    rcases h2 with ⟨e1, _⟩ | ⟨g, cur, e1, e2, e3, e4, e5, e6⟩
    · omega
    have hm' : Mine H 26 S25 q4 (y :: ys) := ⟨h1, .inr ⟨g, cur, e1, e2, e3, e4, e5, e6⟩⟩
    have F := Frz.of hd g e2
    -- the row is known for good
    have hGrow : Rows (G.upd g (.cells cur 26 (0, 0))) S25 q4 (y :: ys) := (Mine.rows (H := G.upd g (.cells cur 26 (0, 0))) (by decide) ⟨h1, .inr ⟨g, cur, e1, Claim.upd_same _ _ _, e3, e4, e5, e6⟩⟩)
    have hGtail : Rows (G.upd g (.cells cur 26 (0, 0))) S25 ⟨if q4.cap = 1 then q4.a else Option.map (fun x => x.add 9) q4.a, q4.len - 1, q4.cap - 1⟩ ys :=
      (Mine.tail (H := G.upd g (.cells cur 26 (0, 0))) ⟨h1, .inr ⟨g, cur, e1, Claim.upd_same _ _ _, e3, e4, e5, e6⟩⟩ hys).rows
    obtain ⟨(z : D25), (hz : (y :: ys)[0]? = some z), hat⟩ := hGrow.get (j := 0) (by decide) hq0
    have hzy : z = y := (Option.some.inj hz).symm
    subst hzy
    have hlz : q4.len = ys.length + 1 := hql
    refine wp_must (fun _ => ⟨trivial, by decide, by omega⟩) (wp_must (fun _ => ⟨by decide, hq0, hGrow.some (by decide) hq0⟩) (wp_loadG (r := z) F (fun _ => hat) ?_))
    have hsub : H0.le (H.del g) := by
      intro b o e
      have hbg : b ≠ g := by
        rintro rfl
        have := (hm.n b ⟨_, e1, rfl⟩).2
        rw [this] at e; cases e
      rw [Claim.del_ne _ hbg]
      exact hm.hk b o e
    refine wp_lit fun n G' hle hd2 hgn hhn hat2 => ?_
    refine wp_append' (sh := S25) (xs := []) (ys := ys) (G0 := G0) (H0 := H0) rfl (Mine.nil _ _ _ _) (hGtail.and hle hd2) (by show 0 + ys.length ≤ maxLen; simp only [maxLen]; simp only [List.length_cons] at hlen; omega)
      (by show (0 + ys.length) * 72 ≤ _; simp only [List.length_cons] at hlen; omega) (by decide) (Claim.le_trans hg (Claim.le_trans F.le hle)) hsub ?_ ?_
    · rintro b ⟨a, e, rfl⟩
      cases e
      constructor
      · cases e : G0 n with
        | none => rfl
        | some o => rw [F.le n o (hg n o e)] at hgn; cases hgn
      · cases e : H0 n with
        | none => rfl
        | some o => rw [hsub n o e] at hhn; cases hhn
    · intro s' H' m1 m2 m3 m4 m5 m6
      have hdec : decide ((z :: ys).length > 8) = true := by simpa using h8
      refine wp_ret ⟨(s', z, true, (0 : Int)), rfl, ?_, ?_⟩
      · unfold putOut; rw [hdec]; exact ⟨m1, m3, m4⟩
      · unfold putOut; rw [hdec]; rfl
  · have h8 : ¬ 8 < out.length := by simp only [decide_eq_false_iff_not] at h; omega
    have hdec : decide (out.length > 8) = false := by simpa using h8
    refine wp_ret ⟨(q4, zeroE, false, (0 : Int)), rfl, ?_, ?_⟩
    · unfold putOut; rw [hdec]; exact hm
    · unfold putOut; rw [hdec]

theorem c6 {G H : Claim} {s : Sl} {xs : List D25} {e : D25} (hs : Rows G S25 s xs) (hb : xs.length ≤ big) (hd : G.disj H) :
    CallAt cx.P 6 [.slice s.a s.len s.cap, S25.enc e] G H (.tup (.pair .slice (.pair S25 (.pair .bool (.int .i64)))))
      (fun (r : Sl × D25 × Bool × Int) _ H' => GivesM G H (put xs e).1 r.1 H' ∧ r.2 = (put xs e).2) := by
  refine call_of ok Try.func6 (T6_eq s e) (wp_dcall (p16 (hs.and (Claim.le_refl _) hd)) (wp_dcall (p24 _ (e := e)) ?_))
  have hbig : xs.length ≤ 2000000 := hb
  unfold put
  cases hm : cacheMay xs && entryMay e
  · have hc : (bif !cacheMay xs then true else !entryMay e) = true := by
      cases h1 : cacheMay xs <;> cases h2 : entryMay e <;> simp_all
    refine wp_cond (fun _ => wp_ret ⟨(⟨none, 0, 0⟩, zeroE, false, (1600 : Int)), rfl, ⟨Mine.nil _ _ _ _, New.nil _ _ _ _, Claim.le_refl _⟩, rfl⟩) (fun h => ?_)
    have h' : (bif !cacheMay xs then true else !entryMay e) = false := h
    rw [hc] at h'; cases h'
  · have hc : (bif !cacheMay xs then true else !entryMay e) = false := by
      cases h1 : cacheMay xs <;> cases h2 : entryMay e <;> simp_all
    refine wp_cond (fun h => ?_) (fun _ => ?_)
    · have h' : (bif !cacheMay xs then true else !entryMay e) = true := h
      rw [hc] at h'; cases h'
    have hnl := noes_length (sameFlow e.1) xs
    show (T.both _ _).wp cx.P [] G H fun v _ H' => ∃ r : Sl × D25 × Bool × Int, v = (Sh.tup (.pair .slice (.pair S25 (.pair .bool (.int .i64))))).enc r ∧ GivesM G H (putOut (noes (sameFlow e.1) xs ++ [e])).1 r.1 H' ∧ r.2 = (putOut (noes (sameFlow e.1) xs ++ [e])).2
    have hol : (noes (sameFlow e.1) xs ++ [e]).length ≤ 2000001 := by simp; omega
    refine wp_both ?_ ?_
    · refine wp_call (c25 hs hb) ?_
      intro r G' H' hle hdd hg
      refine wp_push (sh := S25) (x := e) (xs := noes (sameFlow e.1) xs) (G0 := G) (H0 := H) rfl rfl hg.1 (by show (noes (sameFlow e.1) xs).length + 1 ≤ maxLen; simp only [maxLen]; omega)
        (by show ((noes (sameFlow e.1) xs).length + 1) * 72 ≤ 140737488355328; omega) (by decide) hle hg.2.2 hg.2.1 ?_
      intro G2 q H2 g1 m1 m2 m3 m4 m5 m6
      exact put_tail (by simp) hol m6 (Claim.le_trans hle g1) ⟨m1, m3, m4⟩
    · refine wp_lit fun n G1 hle1 hd1 hgn hhn hat => ?_
      refine wp_call (c25 (hs.le hle1) hb) ?_
      intro r G' H' hle hdd hg
      refine wp_append' (sh := S25) (xs := noes (sameFlow e.1) xs) (ys := [e]) (G0 := G) (H0 := H) rfl hg.1 ⟨rfl, (by show 1 ≤ maxLen; decide), fun _ => ⟨_, rfl, ?_⟩⟩ (by show (noes (sameFlow e.1) xs).length + 1 ≤ maxLen; simp only [maxLen]; omega)
        (by show ((noes (sameFlow e.1) xs).length + 1) * 72 ≤ 140737488355328; omega) (by decide) (Claim.le_trans hle1 hle) hg.2.2 (hg.2.1.le hle1 (Claim.le_refl _)) ?_
      · refine Claim.at_le (Claim.le_and_left _ _ hdd) (Claim.at_le hle ?_)
        exact at_of (hat rfl)
      · intro q H2 m1 m2 m3 m4 m5 m6
        exact put_tail (by simp) hol m6 (Claim.le_trans hle1 hle) ⟨m1, m3, m4⟩
end Go.Ev.Cache
