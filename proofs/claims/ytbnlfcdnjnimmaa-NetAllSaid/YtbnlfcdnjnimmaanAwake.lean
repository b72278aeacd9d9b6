/- The statements' own 'awake'. -/
import Derived.Test.YtbnlfcdnjnimmaanTake
namespace Go.Ev.Nets
open Go Go.Ev Go.Proofs

def tx : ByteArray := ⟨#[120]⟩
def ty : ByteArray := ⟨#[121]⟩
def t0 : ByteArray := ⟨#[]⟩

theorem s1 : send [] tx = (0, [tx]) := by kernel_rfl
theorem s2 : send [tx] ty = (0, [tx, ty]) := by kernel_rfl
theorem s3 : send [tx, ty] t0 = (2200, [tx, ty]) := by kernel_rfl
theorem s4 : copy [tx, ty] 0 = (0, [tx, ty, tx]) := by kernel_rfl
theorem s5 : take_ [tx, ty, tx] 1 = ((ty, 0), [tx, tx]) := by kernel_rfl
theorem s6 : take_ [tx, tx] 5 = ((t0, 2202), [tx, tx]) := by kernel_rfl

theorem p18 {S : Claim} : PureAt cx.P 18 [] S .bool true := by
  refine pure_of ok Try.func18 T18_eq (wp_call c7 ?_)
  intro p G0 H0 g0 d0 n0
  have hp : p.isNone = false := by obtain ⟨n, _, _, _, _, _, _, rfl, _⟩ := n0; rfl
  refine wp_cond (fun h => by rw [show Option.isNone p = false from hp] at h; cases h) (fun _ => ?_)
  refine wp_call (c9 (x := tx) n0) ?_
  rintro r1 G1 H1 g1 d1 ⟨e1, n1⟩
  rw [s1] at e1 n1
  refine wp_call (c9 (x := ty) n1) ?_
  rintro r2 G2 H2 g2 d2 ⟨e2, n2⟩
  rw [s2] at e2 n2
  refine wp_call (c9 (x := t0) n2) ?_
  rintro r3 G3 H3 g3 d3 ⟨e3, n3⟩
  rw [s3] at e3 n3
  refine wp_call (c13 (i := 0) n3) ?_
  rintro r4 G4 H4 g4 d4 ⟨e4, n4⟩
  rw [s4] at e4 n4
  refine wp_call (c11 (i := 1) n4) ?_
  rintro r5 G5 H5 g5 d5 ⟨e5, n5⟩
  rw [s5] at e5 n5
  refine wp_call (c11 (i := 5) n5) ?_
  rintro r6 G6 H6 g6 d6 ⟨e6, n6⟩
  rw [s6] at e6 n6
  subst e1 e2 e3 e4 e5 e6
  refine wp_dcall p8 (wp_dcall p8 (wp_dcall p8 (wp_dcall p8 (wp_dcall p8 ?_))))
  refine wp_callG_part (by kernel_rfl) (Claim.le_refl _) (c15 n6) rfl ?_
  rintro r12 G7 H7 H7' g7 d7 ⟨R, hR, lR, _⟩ l7 _
  refine wp_lit fun n13 G8 g8 d8 _ _ a13 => ?_
  have hlit : Rows (G8.and H7) .str ⟨some ⟨n13, 0, none⟩, 2, 2⟩ [tx, tx] :=
    ⟨rfl, by show 2 ≤ maxLen; decide, fun _ => ⟨_, rfl, Claim.at_le (Claim.le_and_left _ _ d8) (at_of (a13 (by kernel_rfl)))⟩⟩
  have hsame := (p16 ((hR.rows (by decide)).le (Claim.le_trans (Claim.le_trans lR l7) (Claim.le_and_right G8 H7))) hlit).eq (same_self [tx, tx])
  refine wp_dcall hsame (wp_dcall p8 ?_)
  refine wp_callG_part (by kernel_rfl) (Claim.none_le _) (c9n (x := tx)) rfl ?_
  rintro r16 G9 H9 H9' g9 d9 e16 l9 _
  subst e16
  refine wp_dcall p8 ?_
  refine wp_callG_part (by kernel_rfl) (Claim.none_le _) c15n rfl ?_
  rintro r18 G10 H10 H10' g10 d10 e18 l10 _
  subst e18
  exact wp_ret (by kernel_rfl)
end Go.Ev.Nets
