/- The statement's own 'awake'. -/
import Derived.Test.YtcneiffdekbmnaacKept
import Derived.Test.YtcneiffdekbmnaaEvP
import Derived.Test.YtcneiffdekbmnaacTree2
namespace Go.Ev.Cache
open Go Go.Ev Go.Proofs

def flow (i : Int) : D23 := (i, 167772161, 6, 7, 80)
theorem p33 {S : Claim} {x : Int} : PureAt cx.P 33 [.int .i64 x] S S23 (flow x) := pure_of ok Try.func33 (T33_eq x) (wp_ret rfl)

/-- an owned row's block, known for good -/
theorem MineO.freeze {G H : Claim} {s : Sl} {xs : List D25} (h : MineO H s xs) (hx : xs ≠ []) : ∃ n o, H n = some o ∧ Rows (G.upd n o) S25 s xs := by
  obtain ⟨h1, h2, h3⟩ := h
  obtain ⟨g, off, cur, e1, e2, e3⟩ := h3 hx
  exact ⟨g, _, e2, (MineO.rows (H := G.upd g (.cells cur 26 (0, 0))) ⟨h1, h2, fun _ => ⟨g, off, cur, e1, Claim.upd_same _ _ _, e3⟩⟩)⟩

theorem MineO.le {H H' : Claim} {s : Sl} {xs : List D25} (h : MineO H s xs) (k : H.le H') : MineO H' s xs := by
  obtain ⟨h1, h2, h3⟩ := h
  refine ⟨h1, h2, fun hx => ?_⟩
  obtain ⟨g, off, cur, e1, e2, e3⟩ := h3 hx
  exact ⟨g, off, cur, e1, k _ _ e2, e3⟩

theorem rows_lit {G H : Claim} {n k : Nat} {cs : List Value} {xs : List D25} (h : G n = some (.cells cs.toArray 26 (0, 0))) (d : G.disj H) (hcs : cs = xs.flatMap S25.flat) (hk : xs.length = k) (hb : k ≤ 100) : Rows (G.and H) S25 ⟨some ⟨n, 0, none⟩, k, k⟩ xs := by
  subst hcs hk
  refine ⟨rfl, by show xs.length ≤ maxLen; simp only [maxLen]; omega, fun _ => ⟨_, rfl, Claim.at_le (Claim.le_and_left _ _ d) (at_of h)⟩⟩

def ea : D25 := (flow 1, 1, false, 0, 5)
def eb : D25 := (flow 2, 2, false, 0, 6)
def ec : D25 := (flow 1, 3, false, 0, 9)

theorem put1 : put [] ea = ([ea], zeroE, false, 0) := by kernel_rfl
theorem put2 : put [ea] eb = ([ea, eb], zeroE, false, 0) := by kernel_rfl
theorem put3 : put [ea, eb] ec = ([eb, ec], zeroE, false, 0) := by kernel_rfl
theorem put4 : put [] zeroE = ([], zeroE, false, 1600) := by kernel_rfl
theorem find1 : find [ea, eb] (flow 1) 6 = (ea, true) := by kernel_rfl
theorem find2 : find [ea, eb] (flow 1) 45 = (zeroE, false) := by kernel_rfl
theorem drop1 : drop_ [ea, eb] (flow 1) = ([eb], 0) := by kernel_rfl
theorem sweep1 : sweep [ea, eb] 45 = ([eb], [ea], 0) := by kernel_rfl
theorem may1 : cacheMay [ea, eb] = true := by kernel_rfl

theorem same_self (xs : List D25) : same xs xs = true := by simp [same]

theorem nil_rows (S : Claim) : Rows S S25 ⟨none, 0, 0⟩ ([] : List D25) := ⟨rfl, Nat.zero_le _, fun h => absurd rfl h⟩

theorem p19 {S : Claim} : PureAt cx.P 19 [] S .bool true := by
  refine pure_of ok Try.func19 T19_eq (wp_dcall (p33 (x := 1)) (wp_dcall (p33 (x := 2)) ?_))
  refine wp_call_at (c5 (e := ea) (nil_rows S) (Nat.zero_le _) (Claim.disj_none S)) (by kernel_rfl) ?_
  rintro ⟨q2, r2⟩ G2 H2 g2 d2 ⟨m2, e2⟩
  rw [put1] at m2 e2
  dsimp only at m2 e2
  subst e2
  obtain ⟨n2, o2, f2, w2⟩ := m2.m.freeze (G := G2) (by simp)
  refine wp_freeze_call_at d2 f2 (c5 (e := eb) w2 (by decide) (Frz.of d2 n2 f2).disj) (by kernel_rfl) ?_
  rintro ⟨q3, r3⟩ G3 H3 g3 d3 ⟨m3, e3⟩
  rw [put2] at m3 e3
  dsimp only at m3 e3
  subst e3
  have w3 : Rows (G3.and H3) S25 q3 [ea, eb] := m3.m.rows.le (Claim.le_and_right _ _)
  refine wp_dcall (p33 (x := 1)) (wp_dcall ((p7 (f := flow 1) (now := 6) w3).eq find1) (wp_dcall (p33 (x := 1)) (wp_dcall ((p7 (f := flow 1) (now := 45) w3).eq find2) (wp_dcall (p33 (x := 1)) ?_))))
  obtain ⟨n3, o3, f3, w3'⟩ := m3.m.freeze (G := G3) (by simp)
  refine wp_freeze_call_at d3 f3 (c5 (e := ec) w3' (by decide) (Frz.of d3 n3 f3).disj) (by kernel_rfl) ?_
  rintro ⟨q9, r9⟩ G9 H9 g9 d9 ⟨m9, e9⟩
  rw [put3] at m9 e9
  dsimp only at m9 e9
  subst e9
  have w9 := w3'.le g9
  refine wp_dcall (p33 (x := 1)) (wp_call (c9 (f := flow 1) w9 (by decide) d9) ?_)
  rintro ⟨q11, r11⟩ G11 H11 g11 d11 ⟨m11, e11⟩
  rw [drop1] at m11 e11
  dsimp only at m11 e11
  subst e11
  refine wp_call (c11 (now := 45) (w9.le g11) (by decide) d11) ?_
  rintro ⟨q12, t12, r12⟩ G12 H12 g12 d12 ⟨m12, e12⟩
  rw [sweep1] at m12 e12
  dsimp only at m12 e12
  subst e12
  refine wp_call_at (c5 (e := zeroE) (nil_rows G12) (Nat.zero_le _) d12) (by kernel_rfl) ?_
  rintro ⟨q13, r13⟩ G13 H13 g13 d13 ⟨m13, e13⟩
  rw [put4] at m13 e13
  dsimp only at m13 e13
  subst e13
  have k9 : MineO H13 q9 [eb, ec] := m9.m.le (Claim.le_trans m11.2.2 (Claim.le_trans m12.hk m13.hk))
  have k11 : Mine H13 26 S25 q11 [eb] := m11.1.le (Claim.le_trans m12.hk m13.hk)
  have k12 : Mine H13 26 S25 q12 [eb] := m12.m1.le m13.hk
  have k12' : Mine H13 26 S25 t12 [ea] := m12.m2.le m13.hk
  have k3 : Rows G13 S25 q3 [ea, eb] := w9.le (Claim.le_trans g11 (Claim.le_trans g12 g13))
  refine wp_dcall p14 (wp_dcall p14 (wp_lit fun n16 G16 g16 d16 _ _ a16 => ?_))
  have w16 : Rows (G16.and H13) S25 ⟨some ⟨n16, 0, none⟩, 2, 2⟩ [ea, eb] := rows_lit (a16 (by kernel_rfl)) d16 (by kernel_rfl) rfl (by decide)
  refine wp_dcall ((p13 (k3.and g16 d16) w16).eq (same_self _)) (wp_dcall (p33 (x := 1)) ?_)
  refine wp_lit fun n19 G19 g19 d19 _ _ a19 => ?_
  have w19 : Rows (G19.and H13) S25 ⟨some ⟨n19, 0, none⟩, 2, 2⟩ [eb, ec] := rows_lit (a19 (by kernel_rfl)) d19 (by kernel_rfl) rfl (by decide)
  refine wp_dcall ((p13 (k9.rows.le (Claim.le_and_right _ _)) w19).eq (same_self _)) (wp_dcall p14 ?_)
  refine wp_lit fun n22 G22 g22 d22 _ _ a22 => ?_
  have w22 : Rows (G22.and H13) S25 ⟨some ⟨n22, 0, none⟩, 1, 1⟩ [eb] := rows_lit (a22 (by kernel_rfl)) d22 (by kernel_rfl) rfl (by decide)
  refine wp_dcall ((p13 ((k11.rows (by decide)).le (Claim.le_and_right _ _)) w22).eq (same_self _)) (wp_dcall p14 ?_)
  refine wp_lit fun n25 G25 g25 d25 _ _ a25 => ?_
  have w25 : Rows (G25.and H13) S25 ⟨some ⟨n25, 0, none⟩, 1, 1⟩ [eb] := rows_lit (a25 (by kernel_rfl)) d25 (by kernel_rfl) rfl (by decide)
  refine wp_dcall ((p13 ((k12.rows (by decide)).le (Claim.le_and_right _ _)) w25).eq (same_self _)) ?_
  refine wp_lit fun n27 G27 g27 d27 _ _ a27 => ?_
  have w27 : Rows (G27.and H13) S25 ⟨some ⟨n27, 0, none⟩, 1, 1⟩ [ea] := rows_lit (a27 (by kernel_rfl)) d27 (by kernel_rfl) rfl (by decide)
  refine wp_dcall ((p13 ((k12'.rows (by decide)).le (Claim.le_and_right _ _)) w27).eq (same_self _)) (wp_dcall p14 (wp_dcall p14 ?_))
  have w3e := k3.and (Claim.le_trans g16 (Claim.le_trans g19 (Claim.le_trans g22 (Claim.le_trans g25 g27)))) d27
  exact wp_dcall ((p15 w3e).eq may1) (wp_ret (by kernel_rfl))
end Go.Ev.Cache
