/- NetAll: what is told of a net is its own; nets do not meet. -/
import Derived.Test.YtbnlfcdnjnimmaanRowLaw
namespace Go.Ev.Nets
open Go Go.Ev Go.Proofs

theorem send_zero {xs : Texts} {x : ByteArray} (h : (send xs x).1 = 0) : bad x = false ∧ xs.length < 32 ∧ send xs x = (0, xs ++ [x]) := by
  unfold send at h ⊢
  cases hb : bad x with
  | true => rw [hb] at h; cases h
  | false =>
    rw [hb] at h
    unfold add at h ⊢
    by_cases hl : xs.length < 32
    · exact ⟨rfl, hl, by simp [hl]⟩
    · simp [hl] at h
theorem send_not {xs : Texts} {x : ByteArray} (h : (send xs x).1 ≠ 0) : (send xs x).2 = xs := by
  unfold send at h ⊢
  cases hb : bad x with
  | true => rfl
  | false =>
    rw [hb] at h
    unfold add at h ⊢
    by_cases hl : xs.length < 32
    · simp [hl] at h
    · simp [hl]

theorem c6 {W : World} {x0 : Sl} {ts : Texts} (h0 : Rows (Claim.of W) .str x0 ts) :
    CallAt cx.P 6 [.slice x0.a x0.len x0.cap] (Claim.of W) Claim.none .bool (fun r _ _ => r = true) := by
  refine call_of ok Try.func6 (T6_eq x0) (wp_dcall p18 (wp_cond (fun h => by cases h) (fun _ => wp_call c7 ?_)))
  intro p G0 H0 g0 d0 hn
  refine wp_call_part (Claim.none_le _) c7 rfl ?_
  intro p2 G1 H1 C g1 d1 hn2 lC hX
  obtain ⟨a1, dAC⟩ := hX H0 (Claim.le_refl _) (Claim.disj_none _)
  have hp : p.isNone = false := by obtain ⟨n, _, _, _, _, _, _, rfl, _⟩ := hn; rfl
  have hp2 : p2.isNone = false := by obtain ⟨n, _, _, _, _, _, _, rfl, _⟩ := hn2; rfl
  refine wp_cond (fun h => by rw [show Option.isNone p = false from hp, show Option.isNone p2 = false from hp2] at h; cases h) (fun _ => ?_)
  refine wp_loop (fun (v : Sl × Int × Unit) G' H' => ∃ i : Nat, v.2.1 = i ∧ i ≤ x0.len ∧ ∃ xs, Fine xs ∧ ∃ A B C : Claim, A.le H' ∧ B.le H' ∧ C.le H' ∧ A.disj B ∧ A.disj C ∧ B.disj C ∧ NetIs A p xs ∧ Row G' B 9 .str v.1 xs ∧ NetIs C p2 []) (fun (v : Sl × Int × Unit) _ _ => x0.len - v.2.1.toNat)
    ⟨0, rfl, Nat.zero_le _, [], Fine.nil, H0, Claim.none, C, a1, Claim.none_le _, lC, Claim.disj_none _, dAC, Claim.disj_symm (Claim.disj_none _), hn, Row.nil _ _ _, hn2⟩ ?_
  rintro ⟨w, v, u⟩ G H hle hd ⟨i, rfl, hi, xs, hf, A, B, C, hA, hB, hC, dAB, dAC, dBC, nA, rB0, nC⟩
  dsimp only
  have rB : Row G B 9 .str w xs := rB0
  have hr0 := h0.and (Claim.le_trans g0 (Claim.le_trans g1 hle)) hd
  refine wp_cond (fun hc => ?_) (fun _ => wp_pop ?_)
  · have hc1 : (i : Int) < (x0.len : Int) := by
      by_cases h : (i : Int) < (x0.len : Int)
      · exact h
      · simp [h] at hc
    obtain ⟨(x : ByteArray), _, hat⟩ := hr0.get (j := (i : Int)) (by omega) hc1
    have hwr := wrap_next hc1 h0.small
    have hs1 := hr0.some (j := (i : Int)) (by omega) hc1
    refine wp_must (fun _ => ⟨by omega, hc1, hs1⟩) (wp_load (r := x) (fun _ => hat) (wp_call_part hA (c9 (x := x) nA) rfl ?_))
    rintro (r5 : Int) G2 H2 A2 g2 d2 ⟨er, nA2⟩ l2 hX
    obtain ⟨hB2, dBA2⟩ := hX B hB (Claim.disj_symm dAB)
    obtain ⟨hC2, dCA2⟩ := hX C hC (Claim.disj_symm dAC)
    refine wp_dcall p8 (wp_cond (fun hq => ?_) (fun hq => ?_))
    · have hz : (send xs x).1 = 0 := by rw [← er]; exact beq_iff_eq.1 hq
      obtain ⟨hbx, hlt, es⟩ := send_zero hz
      rw [es] at nA2
      have hf' : Fine (xs ++ [x]) := by have := fine_send (x := x) hf; rwa [es] at this
      have hat2 := h0.and (Claim.le_trans g0 (Claim.le_trans g1 (Claim.le_trans hle g2))) d2
      obtain ⟨(y : ByteArray), hy, hat3⟩ := hat2.get (j := (i : Int)) (by omega) hc1
      have hxy : x = y := by
        obtain ⟨(x' : ByteArray), hx', hat'⟩ := hr0.get (j := (i : Int)) (by omega) hc1
        have e1 : x = x' := at_inj (sh := .str) hat hat'
        have e2 : x' = y := by rw [hy] at hx'; exact (Option.some.inj hx').symm
        exact e1.trans e2
      subst hxy
      refine wp_must (fun _ => ⟨by omega, hc1, hat2.some (by omega) hc1⟩) (wp_load (r := x) (fun _ => hat3) ?_)
      refine wp_push_row (sh := .str) (x := x) (xs := xs) rfl rfl hB2 ((rB.le g2)) (show xs.length + 1 ≤ maxLen by simp only [maxLen]; omega) (show (xs.length + 1) * 16 ≤ 140737488355328 by omega) (by decide) ?_
      intro G3 q H3 B3 g3 k1 k2 k3 k4 k5
      obtain ⟨hA3, dA3⟩ := k4 A2 l2 (Claim.disj_symm dBA2)
      obtain ⟨hC3, dC3⟩ := k4 C hC2 (Claim.disj_symm dBC)
      refine wp_again ⟨⟨i + 1, hwr, by omega, xs ++ [x], hf', A2, B3, C, hA3, k3, hC3, dA3, Claim.disj_symm dCA2, Claim.disj_symm dC3, nA2, k1, nC⟩, ?_⟩
      show x0.len - (IntKind.i64.wrap ((i : Int) + 1)).toNat < x0.len - (i : Int).toNat
      rw [hwr]; omega
    · have hz : (send xs x).1 ≠ 0 := by rw [← er]; intro e; rw [e] at hq; cases hq
      rw [send_not hz] at nA2
      refine wp_again ⟨⟨i + 1, hwr, by omega, xs, hf, A2, B, C, l2, hB2, hC2, Claim.disj_symm dBA2, Claim.disj_symm dCA2, dBC, nA2, rB.le g2, nC⟩, ?_⟩
      show x0.len - (IntKind.i64.wrap ((i : Int) + 1)).toNat < x0.len - (i : Int).toNat
      rw [hwr]; omega
  · refine wp_call_part hA (c15 nA) rfl ?_
    rintro r4 G2 H2 K2 g2 d2 ⟨R, hR, lR, hXR⟩ l2 hX2
    obtain ⟨hA2, dAR⟩ := hXR A (Claim.le_refl _)
    obtain ⟨hB2, dB2⟩ := hX2 B hB (Claim.disj_symm dAB)
    obtain ⟨hC2, dC2⟩ := hX2 C hC (Claim.disj_symm dAC)
    refine wp_call_part (Claim.le_trans lR l2) (c17 hR (fine_size hf)) rfl ?_
    rintro u3 G3 H3 K3 g3 d3 _ l3 hX3
    obtain ⟨hA3, _⟩ := hX3 A (Claim.le_trans hA2 l2) dAR
    obtain ⟨hB3, _⟩ := hX3 B hB2 (Claim.disj_le dB2 lR)
    obtain ⟨hC3, _⟩ := hX3 C hC2 (Claim.disj_le dC2 lR)
    refine wp_call_part hA3 (c15 nA) rfl ?_
    rintro r6 G4 H4 K4 g4 d4 ⟨R6, hR6, lR6, _⟩ l4 hX4
    obtain ⟨hB4, _⟩ := hX4 B hB3 (Claim.disj_symm dAB)
    obtain ⟨hC4, _⟩ := hX4 C hC3 (Claim.disj_symm dAC)
    have hsame := (p16 ((hR6.rows (by decide)).le (Claim.le_trans (Claim.le_trans lR6 l4) (Claim.le_and_right G4 H4))) ((rB.m.rows (by decide)).le (Claim.le_trans hB4 (Claim.le_and_right G4 H4)))).eq (same_self xs)
    refine wp_dcall hsame (wp_callG_part rfl hC4 (c15 nC) rfl ?_)
    rintro r8 G5 H5 K5 g5 d5 ⟨R8, hR8, _, _⟩ l5 _
    refine wp_ret ⟨true, ?_, rfl⟩
    have h8 : r8.len = 0 := Mine.len hR8 (by decide)
    show Value.bool (bif true then ((r8.len : Nat) : Int) == (0 : Int) else false) = Value.bool true
    rw [h8]; rfl
end Go.Ev.Nets
