/- The node that every program answers, and what it answers. -/
import Derived.Test.YtaeaipkjlhigmaasCopy
namespace Go.Ev.Spare
open Go Go.Ev Go.Proofs

/-! ### the same node -/

theorem p13 {S : Claim} {x y : D28} {cs ds : List Site} {hs : List D85} {vs : List D90} {es : List D49} (hy : KNode S y ds hs vs es) (hx : KNode S x cs hs vs es) (e1 : y.1 = x.1) (e2 : y.2.1.1 = x.2.1.1) (e3 : y.2.2.2.2.2 = x.2.2.2.2.2) (e4 : sameAs ds cs) :
    PureAt cx.P 13 [S28.enc y, S28.enc x] S .bool true := by
  have hy' := hy.and (Claim.le_refl _) (Claim.disj_none S)
  have hx' := hx.and (Claim.le_refl _) (Claim.disj_none S)
  have s1 := (p29 hy'.hs hx'.hs).eq (sameRow_refl (sh := S85) (by decide) hs)
  have s2 := (p30 hy'.vs hx'.vs).eq (sameRow_refl (sh := S90) (by decide) vs)
  have s3 := (p31 hy'.es hx'.es).eq (sameRow_refl (sh := S49) (by decide) es)
  refine pure_of ok Try.func13 (T13_eq y x) (wp_dcall (p28 hy'.cfg hx'.cfg e2 e4) (wp_dcall s1 (wp_dcall s2 (wp_dcall s3 (wp_ret ?_)))))
  have h1 : (y.1 == x.1) = true := by rw [e1]; simp
  have h2 : (y.2.2.2.2.2 == x.2.2.2.2.2) = true := by rw [e3]; simp
  rw [h1, h2]
  rfl

/-! ### new healths, a new view -/

def newS : D90 := (zeroR, (-1 : Int))
def newH : D85 := (true, (0 : Int))

theorem c45 {G H : Claim} : CallAt cx.P 45 [] G H .slice (fun r _ H' => Mine H' 91 S90 r [newS, newS, newS] ∧ H.le H') := by
  refine call_of ok Try.func45 T45_eq ?_
  refine wp_loop (fun (v : Sl × Int × Unit) _ H' => ∃ (i : Nat), v.2.1 = i ∧ i ≤ 3 ∧ Mine H' 91 S90 v.1 (List.replicate i newS) ∧ New G H v.1 ∧ H.le H') (fun (v : Sl × Int × Unit) _ _ => 3 - v.2.1.toNat)
    ⟨0, rfl, Nat.zero_le _, Mine.nil _ _ _ _, New.nil _ _ _ _, Claim.le_refl _⟩ ?_
  rintro ⟨s, v, u⟩ G' H' hle hd' ⟨i, hv, hi, hm, hnew, hkk⟩
  dsimp only at hv hm hnew
  subst hv
  refine wp_cond (fun hc => ?_) (fun hc => ?_)
  · have hc3 : (i : Int) < 3 := by simpa using hc
    have hw : IntKind.i64.wrap ((i : Int) + 1) = ((i + 1 : Nat) : Int) := wrap_next (n := 3) hc3 (by decide)
    have hlen : (List.replicate i newS).length = i := List.length_replicate
    refine wp_push (sh := S90) (x := newS) (xs := List.replicate i newS) rfl rfl hm (by show (List.replicate i newS).length + 1 ≤ maxLen; rw [hlen]; simp only [maxLen]; omega) (by show ((List.replicate i newS).length + 1) * 40 ≤ 140737488355328; rw [hlen]; omega) (by decide) hle hkk hnew ?_
    intro G2 s2 H2 g1 m1 m2 m3 m4 m5 m6
    refine wp_again ⟨⟨i + 1, hw, by omega, ?_, m3, m4⟩, ?_⟩
    · have e : List.replicate i newS ++ [newS] = List.replicate (i + 1) newS := List.replicate_succ'.symm
      exact cast (congrArg (fun l : List S90.den => Mine H2 91 S90 s2 l) e) m1
    · show 3 - (IntKind.i64.wrap ((i : Int) + 1)).toNat < 3 - ((i : Int)).toNat
      rw [hw]; omega
  · have hc3 : ¬ (i : Int) < 3 := by simpa using hc
    have : i = 3 := by omega
    subst this
    exact wp_pop (wp_ret ⟨s, rfl, hm, hkk⟩)

theorem c46 {G H : Claim} : CallAt cx.P 46 [.int .i64 (4 : Int)] G H .slice (fun r _ H' => Mine H' 86 S85 r [newH, newH, newH, newH] ∧ H.le H') := by
  refine call_of ok Try.func46 (T46_eq 4) ?_
  refine wp_loop (fun (v : Sl × Int × Unit) _ H' => ∃ (i : Nat), v.2.1 = i ∧ i ≤ 4 ∧ Mine H' 86 S85 v.1 (List.replicate i newH) ∧ New G H v.1 ∧ H.le H') (fun (v : Sl × Int × Unit) _ _ => 4 - v.2.1.toNat)
    ⟨0, rfl, Nat.zero_le _, Mine.nil _ _ _ _, New.nil _ _ _ _, Claim.le_refl _⟩ ?_
  rintro ⟨s, v, u⟩ G' H' hle hd' ⟨i, hv, hi, hm, hnew, hkk⟩
  dsimp only at hv hm hnew
  subst hv
  refine wp_cond (fun hc => ?_) (fun hc => ?_)
  · have hc3 : (i : Int) < 4 := by simpa using hc
    have hw : IntKind.i64.wrap ((i : Int) + 1) = ((i + 1 : Nat) : Int) := wrap_next (n := 4) hc3 (by decide)
    have hlen : (List.replicate i newH).length = i := List.length_replicate
    refine wp_push (sh := S85) (x := newH) (xs := List.replicate i newH) rfl rfl hm (by show (List.replicate i newH).length + 1 ≤ maxLen; rw [hlen]; simp only [maxLen]; omega) (by show ((List.replicate i newH).length + 1) * 16 ≤ 140737488355328; rw [hlen]; omega) (by decide) hle hkk hnew ?_
    intro G2 s2 H2 g1 m1 m2 m3 m4 m5 m6
    refine wp_again ⟨⟨i + 1, hw, by omega, ?_, m3, m4⟩, ?_⟩
    · have e : List.replicate i newH ++ [newH] = List.replicate (i + 1) newH := List.replicate_succ'.symm
      exact cast (congrArg (fun l : List S85.den => Mine H2 86 S85 s2 l) e) m1
    · show 4 - (IntKind.i64.wrap ((i : Int) + 1)).toNat < 4 - ((i : Int)).toNat
      rw [hw]; omega
  · have hc3 : ¬ (i : Int) < 4 := by simpa using hc
    have : i = 4 := by omega
    subst this
    exact wp_pop (wp_ret ⟨s, rfl, hm, hkk⟩)

/-! ### the node -/

def toldS : D90 := (((1 : Int), (1 : Int), (1 : Int), (4 : Int)), (5 : Int))
def nodeC (s0 s1 : Sl) : List Site := [(((2 : Int), false, (1 : Int), s0), [((1 : Int), false)]), (((1 : Int), false, (4 : Int), s1), [((1 : Int), false)])]
def nodeH : List D85 := [newH, newH, newH, newH]
def nodeV : List D90 := [newS, toldS, newS]

theorem mine_put1 {H : Claim} {g : Nat} {cur : Array Value} {s : Sl} {x y z v : D90} (hm : Mine H 91 S90 s [x, y, z]) (e1 : s.a = some ⟨g, 0, none⟩) (e2 : H g = some (.cells cur 91 (0, 0))) :
    5 + 5 ≤ cur.size ∧ Mine (H.upd g (.cells (cur.toList.take 5 ++ S90.flat v ++ cur.toList.drop (5 + 5)).toArray 91 (0, 0))) 91 S90 s [x, v, z] := by
  have hl : s.len = 3 := hm.len (by decide)
  obtain ⟨h1, h2⟩ := hm
  rcases h2 with ⟨h, _⟩ | ⟨g', cur', k1, k2, k3, k4, k5, k6⟩
  · rw [hl] at h; cases h
  rw [e1] at k1
  cases k1
  rw [e2] at k2
  cases k2
  have hc : 3 ≤ s.cap := by omega
  have k5' : cur.size = s.cap * 5 := k5
  have h5 : 5 + 5 ≤ cur.size := by omega
  rw [hl] at k6
  have e : cur.toList = S90.flat x ++ (S90.flat y ++ (S90.flat z ++ cur.toList.drop 15)) := by
    have := List.take_append_drop 15 cur.toList
    rw [show cur.toList.take 15 = [x, y, z].flatMap S90.flat from k6] at this
    rw [← this]
    rfl
  have e3 : cur.toList.take 5 ++ S90.flat v ++ cur.toList.drop (5 + 5) = S90.flat x ++ (S90.flat v ++ (S90.flat z ++ cur.toList.drop 15)) := by
    have t1 : cur.toList.take 5 = S90.flat x := by rw [e]; rfl
    have t2 : cur.toList.drop (5 + 5) = S90.flat z ++ cur.toList.drop 15 := by
      rw [show cur.toList.drop (5 + 5) = (S90.flat x ++ (S90.flat y ++ (S90.flat z ++ cur.toList.drop 15))).drop (5 + 5) from congrArg (List.drop (5 + 5)) e]
      rfl
    rw [t1, t2, List.append_assoc]
  refine ⟨h5, h1, .inr ⟨g, (cur.toList.take 5 ++ S90.flat v ++ cur.toList.drop (5 + 5)).toArray, e1, Claim.upd_same _ _ _, k3, k4, ?_, ?_⟩⟩
  · have hf : (S90.flat v).length = 5 := Sh.flat_length S90 v
    rw [List.size_toArray, List.length_append, List.length_append, hf, List.length_take, List.length_drop, Array.length_toList]
    show _ = s.cap * 5
    omega
  · rw [hl, e3]
    rfl

theorem c32 {G : Claim} : CallAt cx.P 32 [] G Claim.none S28 (fun (r : D28) G' _ => r.1 = (0 : Int) ∧ r.2.1.1 = (3 : Int) ∧ ∃ s0 s1, KNode G' r (nodeC s0 s1) nodeH nodeV [] ∧ r.2.2.2.2.1 = ⟨none, 0, 0⟩) := by
  refine call_of ok Try.func32 T32_eq (wp_lit fun n0 G0 g0 d0 _ _ l0 => wp_lit fun n1 G1 g1 d1 _ _ l1 => wp_lit fun n2 G2 g2 d2 _ _ l2 => wp_call c45 ?_)
  rintro v G3 H3 g3 d3 ⟨hm, _⟩
  have hl : v.len = 3 := hm.len (by decide)
  obtain ⟨g, cur, e1, e2⟩ : ∃ g cur, v.a = some ⟨g, 0, none⟩ ∧ H3 g = some (.cells cur 91 (0, 0)) := by
    rcases hm.2 with ⟨h, _⟩ | ⟨g, cur, k1, k2, _⟩
    · rw [hl] at h; cases h
    · exact ⟨g, cur, k1, k2⟩
  obtain ⟨h5, hm2⟩ := mine_put1 (v := toldS) hm e1 e2
  have ea : ((v.a.getD { block := 0, off := 0 }).add (Int.toNat (1 : Int) * 5)) = ⟨g, 5, none⟩ := by
    rw [e1]
    show (⟨g, 0, none⟩ : Addr).add 5 = _
    rw [Addr.add_mk]
  refine wp_must (fun _ => ⟨by decide, by rw [hl]; decide, by rw [e1]; rfl⟩) (wp_store_at (off := 5) (c := cur) ea e2 h5 ?_)
  show T.wp cx.P _ _ G3 (H3.upd g (.cells (cur.toList.take 5 ++ S90.flat toldS ++ cur.toList.drop (5 + 5)).toArray 91 (0, 0))) _
  have d3' : G3.disj (H3.upd g (.cells (cur.toList.take 5 ++ S90.flat toldS ++ cur.toList.drop (5 + 5)).toArray 91 (0, 0))) := by
    refine disj_upd d3 ?_
    rcases d3 g with h | h
    · exact h
    · rw [e2] at h; cases h
  generalize H3.upd g (.cells (cur.toList.take 5 ++ S90.flat toldS ++ cur.toList.drop (5 + 5)).toArray 91 (0, 0)) = H4 at *
  refine wp_call c46 ?_
  rintro h G5 H5 g5 d5 ⟨hm5, hk5⟩
  have K := Claim.le_and_left G5 H5 d5
  have R := Claim.le_and_right G5 H5
  have q0 : (G5.and H5) n0 = some (.cells #[.int .i64 1, .bool false] 83 (0, 0)) := K _ _ (g5 _ _ (g3 _ _ (g2 _ _ (g1 _ _ (l0 rfl)))))
  have q1 : (G5.and H5) n1 = some (.cells #[.int .i64 1, .bool false] 83 (0, 0)) := K _ _ (g5 _ _ (g3 _ _ (g2 _ _ (l1 rfl))))
  have q2 : (G5.and H5) n2 = some (.cells #[.int .i64 2, .bool false, .int .i64 1, .slice (some ⟨n0, 0, none⟩) 1 1, .int .i64 1, .bool false, .int .i64 4, .slice (some ⟨n1, 0, none⟩) 1 1] 53 (0, 0)) := K _ _ (g5 _ _ (g3 _ _ (l2 rfl)))
  refine wp_ret_frz (Frz.all d5) ⟨((0 : Int), ((3 : Int), ⟨some ⟨n2, 0, none⟩, 2, 2⟩), h, v, ⟨none, 0, 0⟩, (0 : Int)), rfl, rfl, rfl, ⟨some ⟨n0, 0, none⟩, 1, 1⟩, ⟨some ⟨n1, 0, none⟩, 1, 1⟩, ⟨⟨⟨rfl, (by show 2 ≤ maxLen; decide), fun _ => ⟨_, rfl, ?_⟩⟩, ?_⟩, ?_, ?_, ?_⟩, rfl⟩
  · exact at_of (cs := [.int .i64 2, .bool false, .int .i64 1, .slice (some ⟨n0, 0, none⟩) 1 1, .int .i64 1, .bool false, .int .i64 4, .slice (some ⟨n1, 0, none⟩) 1 1]) q2
  · intro p hp
    have hp' : p = (((2 : Int), false, (1 : Int), ⟨some ⟨n0, 0, none⟩, 1, 1⟩), [((1 : Int), false)]) ∨ p = (((1 : Int), false, (4 : Int), ⟨some ⟨n1, 0, none⟩, 1, 1⟩), [((1 : Int), false)]) := by
      simpa [nodeC] using hp
    rcases hp' with rfl | rfl
    · exact ⟨rfl, by show 1 ≤ maxLen; decide, fun _ => ⟨_, rfl, at_of (cs := [.int .i64 1, .bool false]) q0⟩⟩
    · exact ⟨rfl, by show 1 ≤ maxLen; decide, fun _ => ⟨_, rfl, at_of (cs := [.int .i64 1, .bool false]) q1⟩⟩
  · exact (hm5.rows (by decide)).le R
  · exact ((hm2.le hk5).rows (by decide)).le R
  · exact ⟨rfl, Nat.zero_le _, fun h => absurd rfl h⟩

/-! ### what it answers -/

def flow1 : D49 := (((0 : Int), (0 : Int), (17 : Int), (0 : Int), (0 : Int)), (0 : Int), false, (0 : Int), (0 : Int))
theorem full_a (s0 s1 : Sl) : full 0 3 (nodeC s0 s1) nodeH nodeV [] = (false, 0) := by kernel_rfl
theorem full_b (s0 s1 : Sl) : full 0 3 (nodeC s0 s1) nodeH nodeV [flow1] = (true, 0) := by kernel_rfl
theorem full_c : full 0 0 [] [] [] [] = (false, 1700) := by kernel_rfl
theorem targ_a (s0 s1 : Sl) : targets 0 3 9 (nodeC s0 s1) nodeH nodeV [] = ([((1 : Int), (3 : Int))], 0) := by kernel_rfl
theorem targ_b (s0 s1 : Sl) : targets 0 3 15 (nodeC s0 s1) nodeH nodeV [] = ([], 0) := by kernel_rfl
theorem targ_c (s0 s1 : Sl) : targets 0 3 (-1) (nodeC s0 s1) nodeH nodeV [flow1] = ([], 1700) := by kernel_rfl


theorem KNode.flows {S : Claim} {x : D28} {cs : List Site} {hs : List D85} {vs : List D90} {es es' : List D49} {f : Sl} (h : KNode S x cs hs vs es) (hf : Rows S S49 f es') : KNode S (x.1, x.2.1, x.2.2.1, x.2.2.2.1, f, x.2.2.2.2.2) cs hs vs es' := ⟨h.cfg, h.hs, h.vs, hf⟩

theorem KNode.zero (S : Claim) : KNode S ((0 : Int), ((0 : Int), ⟨none, 0, 0⟩), ⟨none, 0, 0⟩, ⟨none, 0, 0⟩, ⟨none, 0, 0⟩, (0 : Int)) [] [] [] [] :=
  ⟨⟨⟨rfl, Nat.zero_le _, fun h => absurd rfl h⟩, fun p hp => by cases hp⟩, ⟨rfl, Nat.zero_le _, fun h => absurd rfl h⟩, ⟨rfl, Nat.zero_le _, fun h => absurd rfl h⟩, ⟨rfl, Nat.zero_le _, fun h => absurd rfl h⟩⟩

theorem p14 {S : Claim} : PureAt cx.P 14 [] S .bool true := by
  refine pure_of ok Try.func14 T14_eq (wp_call c32 ?_)
  rintro ⟨id, ⟨ver, sc⟩, sh, sv, sf, ser⟩ G1 H1 g1 d1 ⟨e1, e2, s0, s1, hk, e3⟩
  dsimp only at e1 e2 e3
  subst e1 e2 e3
  have f1 := p6 (hk.and (Claim.le_refl _) d1)
  have fa := full_a s0 s1
  dsimp only at f1
  rw [fa] at f1
  refine wp_dcall f1 (wp_call (c8 (now := 9) hk d1) ?_)
  rintro ⟨ra, na⟩ G2 H2 g2 d2 ⟨ma, _, _, ea⟩
  have ta := targ_a s0 s1
  dsimp only at ma ea
  rw [ta] at ma ea
  refine wp_call (c8 (now := 15) (hk.le g2) d2) ?_
  rintro ⟨rb, nb⟩ G3 H3 g3 d3 ⟨mb, _, hb2, eb⟩
  have tb := targ_b s0 s1
  dsimp only at mb eb
  rw [tb] at mb eb
  refine wp_lit fun n4 G4 g4 d4 _ _ l4 => ?_
  have k4 := hk.le (Claim.le_trans g2 (Claim.le_trans g3 g4))
  have r4 : Rows G4 S49 ⟨some ⟨n4, 0, none⟩, 1, 1⟩ [flow1] := ⟨rfl, (by show 1 ≤ maxLen; decide), fun _ => ⟨_, rfl, at_of (cs := S49.flat flow1) (l4 rfl)⟩⟩
  have kf := k4.flows (es' := ([flow1] : List D49)) r4
  have f2 := p6 (kf.and (Claim.le_refl _) d4)
  have fb := full_b s0 s1
  dsimp only at f2
  rw [fb] at f2
  have f3 := p6 (KNode.zero (G4.and H3))
  have fc := full_c
  dsimp only at f3
  rw [fc] at f3
  refine wp_dcall_at f2 (by kernel_rfl) (wp_dcall_at f3 (by kernel_rfl) ?_)
  refine wp_call_at (c8 (now := -1) kf d4) (by kernel_rfl) ?_
  rintro ⟨rc, nc⟩ G5 H5 g5 d5 ⟨mc, _, hc5, ec⟩
  have tc := targ_c s0 s1
  dsimp only at mc ec
  rw [tc] at mc ec
  have ea' : na = (0 : Int) := ea
  have eb' : nb = (0 : Int) := eb
  have ec' : nc = (1700 : Int) := ec
  subst ea' eb' ec'
  refine wp_dcall p10 (wp_lit fun n9 G6 g6 d6 _ _ l9 => ?_)
  have r9 : Rows (G6.and H5) S69 ⟨some ⟨n9, 0, none⟩, 1, 1⟩ [((1 : Int), (3 : Int))] := ⟨rfl, (by show 1 ≤ maxLen; decide), fun _ => ⟨_, rfl, Claim.at_le (Claim.le_and_left _ _ d6) (at_of (cs := [.int .i64 1, .int .i64 3]) (l9 rfl))⟩⟩
  have ra' : Rows (G6.and H5) S69 ra [((1 : Int), (3 : Int))] := ((ma.rows (by decide)).le (Claim.le_trans hb2 hc5)).le (Claim.le_and_right _ _)
  have lb : rb.len = 0 := mb.len (by decide)
  refine wp_dcall ((p11 ra' r9).eq (sameRow_refl (sh := S69) (by decide) _)) (wp_dcall p10 (wp_dcall p10 (wp_dcall p10 (wp_dcall p10 (wp_dcall p10 (wp_ret ?_))))))
  rw [lb]
  rfl
end Go.Ev.Spare
