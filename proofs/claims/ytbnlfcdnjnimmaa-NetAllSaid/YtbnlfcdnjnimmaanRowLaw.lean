/- NetRow: what was sent first stands first. -/
import Derived.Test.YtbnlfcdnjnimmaanAwake
namespace Go.Ev.Nets
open Go Go.Ev Go.Proofs

/-- a net, and a row of what is wanted, apart -/
def Want (G H : Claim) (p : Option Addr) (w : Sl) (xs : Texts) : Prop := ∃ A B : Claim, A.le H ∧ B.le H ∧ A.disj B ∧ NetIs A p xs ∧ Row G B 9 .str w xs

theorem want_tail {G H : Claim} {E : Env} {Q : Value → Claim → Claim → Prop} {p : Option Addr} {w : Sl} {xs : Texts} {e t : T} (h : Want G H p w xs)
    (hk : ∀ G' H', G.le G' → G'.disj H' → Want G' H' p w xs → t.wp cx.P E G' H' Q) :
    (T.call 15 [.pointer p] .slice <| fun (r9 : Sl) =>
       .dcall (true) 16 [.slice r9.a r9.len r9.cap, .slice w.a w.len w.cap] .bool <| fun (r11 : Bool) => .cond (!r11) e t).wp cx.P E G H Q := by
  obtain ⟨A, B, ha, hb, hs, hn, hm⟩ := h
  refine wp_call_part ha (c15 hn) rfl ?_
  rintro r9 G1 H1 H1' g1 d1 ⟨R, hR, lR, hX⟩ l1 hY
  obtain ⟨hb1, hd1⟩ := hY B hb (Claim.disj_symm hs)
  obtain ⟨ha1, _⟩ := hX A (Claim.le_refl _)
  have hsame := (p16 ((hR.rows (by decide)).le (Claim.le_trans (Claim.le_trans lR l1) (Claim.le_and_right G1 H1))) ((hm.m.rows (by decide)).le (Claim.le_trans hb1 (Claim.le_and_right G1 H1)))).eq (same_self xs)
  refine wp_dcall hsame (wp_cond (fun h => by cases h) (fun _ => hk G1 H1 g1 d1 ⟨A, B, Claim.le_trans ha1 l1, hb1, hs, hn, hm.le g1⟩))

theorem beq_dec {a b : Bool} (h : a = b) : (!(a == b)) = false := by subst h; simp
theorem zero_beq {z : Int} {c : Prop} [Decidable c] (h1 : c → z = 0) (h2 : ¬ c → z ≠ 0) : (z == (0 : Int)) = decide c := by
  by_cases hc : c
  · rw [h1 hc]; simp [hc]
  · have := h2 hc
    simp [hc, this]

/-- a text of one byte -/
def byte (i : Nat) : ByteArray := ⟨#[UInt8.ofNat i]⟩
theorem byte_fine (i : Nat) : bad (byte i) = false := rfl
theorem byte_small : ∀ i : Nat, i < 60 → IntKind.u8.wrap (i : Int) = ((UInt8.ofNat i).toNat : Int) := by decide
theorem byte_cells (i : Nat) (h : (i : Int) < 60) : ((byte i).data.toList.map fun b => Value.int .u8 b.toNat) = [.int .u8 (IntKind.u8.wrap (i : Int))] := by
  rw [byte_small i (by omega)]; rfl

theorem c4 {W : World} {x0 : Sl} {is : List Int} (h0 : Rows (Claim.of W) (.int .i64) x0 is) :
    CallAt cx.P 4 [.slice x0.a x0.len x0.cap] (Claim.of W) Claim.none .bool (fun r _ _ => r = true) := by
  refine call_of ok Try.func4 (T4_eq x0) (wp_dcall p18 (wp_cond (fun h => by cases h) (fun _ => wp_call c7 ?_)))
  intro p G0 H0 g0 d0 hn
  have hp : p.isNone = false := by obtain ⟨n, _, _, _, _, _, _, rfl, _⟩ := hn; rfl
  refine wp_cond (fun h => by rw [show Option.isNone p = false from hp] at h; cases h) (fun _ => ?_)
  refine wp_loop (fun (v : Sl × Int × Unit) G' H' => ∃ i : Nat, v.2.1 = i ∧ i ≤ x0.len ∧ ∃ xs, Fine xs ∧ Want G' H' p v.1 xs) (fun (v : Sl × Int × Unit) _ _ => x0.len - v.2.1.toNat)
    ⟨0, rfl, Nat.zero_le _, [], Fine.nil, H0, Claim.none, Claim.le_refl _, Claim.none_le _, Claim.disj_none _, hn, Row.nil _ _ _⟩ ?_
  rintro ⟨w, v, u⟩ G H hle hd ⟨i, rfl, hi, xs, hf, hw0⟩
  dsimp only
  have hw : Want G H p w xs := hw0
  have hr0 := h0.and (Claim.le_trans g0 hle) hd
  refine wp_cond (fun hc => ?_) (fun _ => wp_pop (wp_ret ⟨true, rfl, rfl⟩))
  have hc1 : (i : Int) < (x0.len : Int) ∧ (i : Int) < 60 := by
    by_cases h : (i : Int) < (x0.len : Int)
    · simp [h] at hc; exact ⟨h, hc⟩
    · simp [h] at hc
  obtain ⟨(m : Int), (hm : is[i]? = some m), hat⟩ := hr0.get (j := (i : Int)) (by omega) hc1.1
  have hwr := wrap_next hc1.1 h0.small
  have hs1 := hr0.some (j := (i : Int)) (by omega) hc1.1
  refine wp_must (fun _ => ⟨by omega, hc1.1, hs1⟩) (wp_load (r := m) (fun _ => hat) (wp_must (fun _ => by decide) (wp_must (fun _ => ⟨by omega, hc1.1, hs1⟩) (wp_load (r := m) (fun _ => hat) ?_))))
  -- the next round
  have next : ∀ {G' H' : Claim} {q : Sl} {ys : Texts}, Want G' H' p q ys → Fine ys →
      (T.again (.pair .slice (.pair (.int .i64) .unit)) (q, (IntKind.i64.wrap ((i : Int) + 1), ()))).wp cx.P (headJ (.pair .slice (.pair (.int .i64) .unit)) (fun (x' : Sl × Int × Unit) G'' H'' => (∃ i : Nat, x'.2.1 = i ∧ i ≤ x0.len ∧ ∃ xs, Fine xs ∧ Want G'' H'' p x'.1 xs) ∧ x0.len - x'.2.1.toNat < x0.len - (i : Int).toNat) :: [])
        G' H' (fun v G' H' => ∃ r, v = Sh.bool.enc r ∧ r = true) := by
    intro G' H' q ys h2 hy
    refine wp_again ⟨⟨i + 1, hwr, by omega, ys, hy, h2⟩, ?_⟩
    show x0.len - (IntKind.i64.wrap ((i : Int) + 1)).toNat < _
    rw [hwr]; omega
  obtain ⟨K, hK, hK31⟩ := and_mask (m.fdiv ((2 : Int) ^ min (Int.toNat (2 : Int)) IntKind.i64.bits)) 31 (by decide)
  have hK' : bitsI BinOp.and IntKind.i64 (m.fdiv ((2 : Int) ^ min (Int.toNat (2 : Int)) IntKind.i64.bits)) (31 : Int) = (K : Int) := hK
  have hlw : w.len = xs.length := by obtain ⟨A, B, _, _, _, _, hmn⟩ := hw; exact hmn.m.len (by decide)
  rw [hK']
  have hx32 : xs.length ≤ 32 := hf.1
  refine wp_cond (fun _ => wp_cond (fun _ => ?_) (fun _ => wp_cond (fun _ => ?_) (fun _ => ?_))) (fun _ => wp_cond (fun _ => ?_) (fun _ => wp_cond (fun _ => ?_) (fun _ => ?_)))
  · obtain ⟨A, B, ha, hb, hs, hn, hm⟩ := hw
    refine wp_lit fun n5 G1 g1 d1 _ _ a5 => ⟨byte i, rfl, fun _ => ⟨⟨n5, 0, none⟩, rfl, ?_⟩, ?_⟩
    · refine Claim.at_le (Claim.le_and_left _ _ d1) ?_
      rw [byte_cells i hc1.2]
      exact at_of (a5 rfl)
    refine wp_call_part ha (c9 (x := byte i) hn) rfl ?_
    rintro (r7 : Int) G2 H2 A2 g2 d2 ⟨er, hn2⟩ l2 hX
    obtain ⟨hb2, hs2⟩ := hX B hb (Claim.disj_symm hs)
    have esd : send xs (byte i) = add xs (byte i) := by unfold send; rw [byte_fine]; rfl
    rw [esd] at er hn2
    have er2 : (r7 == (0 : Int)) = decide ((w.len : Int) < (32 : Int)) := by
      subst er
      refine zero_beq (fun h => ?_) (fun h => ?_)
      · unfold add; rw [if_pos (by omega)]
      · unfold add; rw [if_neg (by omega)]; simp
    have hm2 := (hm.le g1).le g2
    refine wp_dcall p8 (wp_cond (fun h => ?_) (fun _ => wp_cond (fun h => ?_) (fun h => ?_)))
    · have h' := beq_dec er2
      rw [h'] at h; cases h
    · have hlt : xs.length < 32 := by
        have h2 : decide ((w.len : Int) < (32 : Int)) = true := er2.symm.trans h
        simp only [decide_eq_true_eq] at h2
        omega
      have ea : add xs (byte i) = (0, xs ++ [byte i]) := by unfold add; rw [if_pos hlt]
      rw [ea] at hn2
      refine wp_push_row (sh := .str) (x := byte i) (xs := xs) rfl rfl hb2 hm2 (show xs.length + 1 ≤ maxLen by simp only [maxLen]; omega) (show (xs.length + 1) * 16 ≤ 140737488355328 by omega) (by decide) ?_
      intro G3 q H3 B3 g3 k1 k2 k3 k4 k5
      obtain ⟨ha3, hs3⟩ := k4 A2 l2 (Claim.disj_symm hs2)
      have hf' : Fine (xs ++ [byte i]) := by have := fine_add (x := byte i) hf (byte_fine i); rwa [ea] at this
      exact want_tail (xs := xs ++ [byte i]) ⟨A2, B3, ha3, k3, hs3, hn2, k1⟩ fun G4 H4 g4 d4 h4 => next h4 hf'
    · have hge : ¬ xs.length < 32 := by
        have h2 : decide ((w.len : Int) < (32 : Int)) = false := er2.symm.trans h
        simp only [decide_eq_false_iff_not] at h2
        omega
      have ea : add xs (byte i) = (2201, xs) := by unfold add; rw [if_neg hge]
      rw [ea] at hn2
      exact want_tail (xs := xs) ⟨A2, B, l2, hb2, Claim.disj_symm hs2, hn2, hm2⟩ fun G4 H4 g4 d4 h4 => next h4 hf
  · obtain ⟨A, B, ha, hb, hs, hn, hm⟩ := hw
    refine wp_call_part ha (c11 (i := (K : Int)) hn) rfl ?_
    rintro (r5 : ByteArray × Int) G2 H2 A2 g2 d2 ⟨er, hn2⟩ l2 hX
    obtain ⟨hb2, hs2⟩ := hX B hb (Claim.disj_symm hs)
    have hm2 := hm.le g2
    have hh : hasAt xs (K : Int) = decide ((K : Int) < (w.len : Int)) := by unfold hasAt; rw [hlw]; simp
    have er2 : (r5.2 == (0 : Int)) = decide ((K : Int) < (w.len : Int)) := by
      subst er
      refine zero_beq (fun h => ?_) (fun h => ?_)
      · unfold take_; rw [hh, decide_eq_true h]; rfl
      · unfold take_; rw [hh, decide_eq_false h]; simp
    refine wp_dcall p8 (wp_cond (fun h => ?_) (fun _ => wp_cond (fun h => ?_) (fun h => ?_)))
    · have h' := beq_dec er2
      rw [h'] at h; cases h
    · simp only [decide_eq_true_eq] at h
      have hk : K < xs.length := by omega
      obtain ⟨hc, hcm⟩ := hm.m.capOk
      have et : take_ xs (K : Int) = ((xs.getD K ⟨#[]⟩, 0), cut xs K) := by
        unfold take_; rw [hh, decide_eq_true (by omega)]; rfl
      rw [et] at er hn2
      have hrow : Rows (G2.and H2) .str w xs := (hm2.m.rows (by decide)).le (Claim.le_trans hb2 (Claim.le_and_right _ _))
      obtain ⟨(x : ByteArray), (hx : xs[K]? = some x), hat2⟩ := hrow.get (j := (K : Int)) (by omega) h
      have ex : xs.getD K ⟨#[]⟩ = x := by rw [List.getD_eq_getElem?_getD, hx]; rfl
      rw [ex] at er
      subst er
      refine wp_must (fun _ => ⟨by omega, h, hrow.some (by omega) h⟩) (wp_load (r := x) (fun _ => hat2) (wp_cond (fun hq => ?_) (fun _ => ?_)))
      · exfalso
        have hq' : (!(x.toList == x.toList)) = true := hq
        rw [toList_beq, beq_self] at hq'
        cases hq'
      have hcap0 : ¬ w.cap = 0 := by omega
      have ea : (if w.cap = 0 then w.a else Option.map (fun x => x.add (0 * 1)) w.a) = w.a := by
        rw [if_neg hcap0]
        cases w.a with
        | none => rfl
        | some a => simp [Addr.add_zero]
      have hwK : IntKind.i64.wrap ((K : Int) + 1) = ((K + 1 : Nat) : Int) := by rw [wrap_i64 (by omega) (by omega)]; omega
      have ej : ((K + 1 : Nat) : Int).toNat = K + 1 := by omega
      rw [ea, hwK, ej]
      have lt1 : (xs.take K).length = K := by rw [List.length_take]; omega
      have lt2 : (xs.drop (K + 1)).length = xs.length - (K + 1) := List.length_drop
      refine wp_lit fun n8 G3 g3 d3 _ _ a8 => wp_must (fun _ => ⟨⟨by omega, by omega⟩, trivial⟩) ?_
      have hfront : Rows (G3.and H2) .str ⟨w.a, (K : Int).toNat - 0, w.cap - 0⟩ (xs.take K) :=
        (Mine.rows (by decide) (Mine.front hm.m (by decide) (show K ≤ xs.length by omega))).le (Claim.le_trans hb2 (Claim.le_and_right _ _))
      refine wp_append_row (sh := .str) (xs := []) (ys := xs.take K) rfl (Claim.none_le _) d3 (Row.empty 9 .str (a8 rfl)) hfront (show 0 + (xs.take K).length ≤ maxLen by rw [lt1]; simp only [maxLen]; omega) (show (0 + (xs.take K).length) * 16 ≤ 140737488355328 by rw [lt1]; omega) (by decide) ?_
      intro q9 H4 B4 k1 k2 k3 k4 k5
      obtain ⟨hb4, hs4⟩ := k4 B hb2 (Claim.disj_none _)
      obtain ⟨ha4, hsA4⟩ := k4 A2 l2 (Claim.disj_none _)
      have hr : Rows (G3.and H4) .str ⟨(if w.cap = K + 1 then w.a else Option.map (fun x => x.add ((K + 1) * 1)) w.a), w.len - (K + 1), w.cap - (K + 1)⟩ (xs.drop (K + 1)) :=
        Rows.drop (sh := .str) ((hm.m.rows (by decide)).le (Claim.le_trans hb4 (Claim.le_and_right _ _))) (show K + 1 ≤ xs.length by omega) (by omega)
      have k1' : Row G3 B4 9 .str q9 (xs.take K) := k1
      have b1 : (xs.take K).length + (xs.drop (K + 1)).length ≤ maxLen := by rw [lt1, lt2]; simp only [maxLen]; omega
      have b2 : ((xs.take K).length + (xs.drop (K + 1)).length) * 16 ≤ 140737488355328 := by rw [lt1, lt2]; omega
      refine wp_must (fun _ => ⟨trivial, by omega, by omega⟩) (wp_append_row (sh := .str) (xs := xs.take K) (ys := xs.drop (K + 1)) rfl k3 k5 k1' hr b1 b2 (by decide) ?_)
      intro q10 H5 B5 j1 j2 j3 j4 j5
      obtain ⟨ha5, hsA5⟩ := j4 A2 ha4 hsA4
      have hf' : Fine (cut xs K) := by have := fine_take (i := (K : Int)) hf; rwa [et] at this
      exact want_tail (xs := cut xs K) ⟨A2, B5, ha5, j3, hsA5, hn2, j1⟩ fun G4 H4 g4 d4 h4 => next h4 hf'
    · simp only [decide_eq_false_iff_not] at h
      have et : take_ xs (K : Int) = ((⟨#[]⟩, 2202), xs) := by unfold take_; rw [hh, decide_eq_false h]; rfl
      rw [et] at hn2
      exact want_tail (xs := xs) ⟨A2, B, l2, hb2, Claim.disj_symm hs2, hn2, hm2⟩ fun G4 H4 g4 d4 h4 => next h4 hf
  · obtain ⟨A, B, ha, hb, hs, hn, hm⟩ := hw
    refine wp_call_part ha (c13 (i := (K : Int)) hn) rfl ?_
    rintro (r5 : Int) G2 H2 A2 g2 d2 ⟨er, hn2⟩ l2 hX
    obtain ⟨hb2, hs2⟩ := hX B hb (Claim.disj_symm hs)
    have hm2 := hm.le g2
    have hh : hasAt xs (K : Int) = decide ((K : Int) < (w.len : Int)) := by unfold hasAt; rw [hlw]; simp
    have er2 : (r5 == (0 : Int)) = (bif decide ((K : Int) < (w.len : Int)) then decide ((w.len : Int) < (32 : Int)) else false) := by
      subst er
      unfold copy
      rw [hh]
      by_cases h : (K : Int) < (w.len : Int)
      · rw [decide_eq_true h, if_pos rfl, cond_true]
        refine zero_beq (fun h => ?_) (fun h => ?_)
        · unfold add; rw [if_pos (by omega)]
        · unfold add; rw [if_neg (by omega)]; simp
      · rw [decide_eq_false h, if_neg (by simp), cond_false]; rfl
    refine wp_dcall p8 (wp_cond (fun h => ?_) (fun _ => wp_cond (fun h => ?_) (fun h => ?_)))
    · have h' := beq_dec er2
      rw [h'] at h; cases h
    · have h2 : (bif decide ((K : Int) < (w.len : Int)) then decide ((w.len : Int) < (32 : Int)) else false) = true := er2.symm.trans h
      have h3 : (K : Int) < (w.len : Int) := by
        by_cases h : (K : Int) < (w.len : Int)
        · exact h
        · simp [h] at h2
      have h4 : xs.length < 32 := by
        rw [decide_eq_true h3, cond_true] at h2
        simp only [decide_eq_true_eq] at h2
        omega
      have hrow : Rows (G2.and H2) .str w xs := (hm2.m.rows (by decide)).le (Claim.le_trans hb2 (Claim.le_and_right _ _))
      obtain ⟨(x : ByteArray), (hx : xs[K]? = some x), hat2⟩ := hrow.get (j := (K : Int)) (by omega) h3
      have ex : xs.getD K ⟨#[]⟩ = x := by rw [List.getD_eq_getElem?_getD, hx]; rfl
      have ea : copy xs (K : Int) = (0, xs ++ [x]) := by
        unfold copy
        rw [hh, decide_eq_true h3, if_pos rfl]
        show add xs (xs.getD K ⟨#[]⟩) = _
        rw [ex]
        unfold add
        rw [if_pos h4]
      have hf' : Fine (xs ++ [x]) := by have := fine_copy (i := (K : Int)) hf; rwa [ea] at this
      rw [ea] at hn2
      refine wp_must (fun _ => ⟨by omega, h3, hrow.some (by omega) h3⟩) (wp_load (r := x) (fun _ => hat2) ?_)
      refine wp_push_row (sh := .str) (x := x) (xs := xs) rfl rfl hb2 hm2 (show xs.length + 1 ≤ maxLen by simp only [maxLen]; omega) (show (xs.length + 1) * 16 ≤ 140737488355328 by omega) (by decide) ?_
      intro G3 q H3 B3 g3 k1 k2 k3 k4 k5
      obtain ⟨ha3, hs3⟩ := k4 A2 l2 (Claim.disj_symm hs2)
      exact want_tail (xs := xs ++ [x]) ⟨A2, B3, ha3, k3, hs3, hn2, k1⟩ fun G4 H4 g4 d4 h4 => next h4 hf'
    · have h2 : (bif decide ((K : Int) < (w.len : Int)) then decide ((w.len : Int) < (32 : Int)) else false) = false := er2.symm.trans h
      have ea : (copy xs (K : Int)).2 = xs := by
        unfold copy
        rw [hh]
        by_cases h3 : (K : Int) < (w.len : Int)
        · rw [decide_eq_true h3, cond_true] at h2
          simp only [decide_eq_false_iff_not] at h2
          rw [decide_eq_true h3, if_pos rfl]
          unfold add
          rw [if_neg (by omega)]
        · rw [decide_eq_false h3, if_neg (by simp)]
      rw [ea] at hn2
      exact want_tail (xs := xs) ⟨A2, B, l2, hb2, Claim.disj_symm hs2, hn2, hm2⟩ fun G4 H4 g4 d4 h4 => next h4 hf
  · obtain ⟨A, B, ha, hb, hs, hn, hm⟩ := hw
    refine wp_lit fun n5 G1 g1 d1 _ _ a5 => ⟨byte i, rfl, fun _ => ⟨⟨n5, 0, none⟩, rfl, ?_⟩, ?_⟩
    · refine Claim.at_le (Claim.le_and_left _ _ d1) ?_
      rw [byte_cells i hc1.2]
      exact at_of (a5 rfl)
    refine wp_call_part ha (c9 (x := byte i) hn) rfl ?_
    rintro (r7 : Int) G2 H2 A2 g2 d2 ⟨er, hn2⟩ l2 hX
    obtain ⟨hb2, hs2⟩ := hX B hb (Claim.disj_symm hs)
    have esd : send xs (byte i) = add xs (byte i) := by unfold send; rw [byte_fine]; rfl
    rw [esd] at er hn2
    have er2 : (r7 == (0 : Int)) = decide ((w.len : Int) < (32 : Int)) := by
      subst er
      refine zero_beq (fun h => ?_) (fun h => ?_)
      · unfold add; rw [if_pos (by omega)]
      · unfold add; rw [if_neg (by omega)]; simp
    have hm2 := (hm.le g1).le g2
    refine wp_dcall p8 (wp_cond (fun h => ?_) (fun _ => wp_cond (fun h => ?_) (fun h => ?_)))
    · have h' := beq_dec er2
      rw [h'] at h; cases h
    · have hlt : xs.length < 32 := by
        have h2 : decide ((w.len : Int) < (32 : Int)) = true := er2.symm.trans h
        simp only [decide_eq_true_eq] at h2
        omega
      have ea : add xs (byte i) = (0, xs ++ [byte i]) := by unfold add; rw [if_pos hlt]
      rw [ea] at hn2
      refine wp_push_row (sh := .str) (x := byte i) (xs := xs) rfl rfl hb2 hm2 (show xs.length + 1 ≤ maxLen by simp only [maxLen]; omega) (show (xs.length + 1) * 16 ≤ 140737488355328 by omega) (by decide) ?_
      intro G3 q H3 B3 g3 k1 k2 k3 k4 k5
      obtain ⟨ha3, hs3⟩ := k4 A2 l2 (Claim.disj_symm hs2)
      have hf' : Fine (xs ++ [byte i]) := by have := fine_add (x := byte i) hf (byte_fine i); rwa [ea] at this
      exact want_tail (xs := xs ++ [byte i]) ⟨A2, B3, ha3, k3, hs3, hn2, k1⟩ fun G4 H4 g4 d4 h4 => next h4 hf'
    · have hge : ¬ xs.length < 32 := by
        have h2 : decide ((w.len : Int) < (32 : Int)) = false := er2.symm.trans h
        simp only [decide_eq_false_iff_not] at h2
        omega
      have ea : add xs (byte i) = (2201, xs) := by unfold add; rw [if_neg hge]
      rw [ea] at hn2
      exact want_tail (xs := xs) ⟨A2, B, l2, hb2, Claim.disj_symm hs2, hn2, hm2⟩ fun G4 H4 g4 d4 h4 => next h4 hf
  · obtain ⟨A, B, ha, hb, hs, hn, hm⟩ := hw
    refine wp_call_part ha (c11 (i := (K : Int)) hn) rfl ?_
    rintro (r5 : ByteArray × Int) G2 H2 A2 g2 d2 ⟨er, hn2⟩ l2 hX
    obtain ⟨hb2, hs2⟩ := hX B hb (Claim.disj_symm hs)
    have hm2 := hm.le g2
    have hh : hasAt xs (K : Int) = decide ((K : Int) < (w.len : Int)) := by unfold hasAt; rw [hlw]; simp
    have er2 : (r5.2 == (0 : Int)) = decide ((K : Int) < (w.len : Int)) := by
      subst er
      refine zero_beq (fun h => ?_) (fun h => ?_)
      · unfold take_; rw [hh, decide_eq_true h]; rfl
      · unfold take_; rw [hh, decide_eq_false h]; simp
    refine wp_dcall p8 (wp_cond (fun h => ?_) (fun _ => wp_cond (fun h => ?_) (fun h => ?_)))
    · have h' := beq_dec er2
      rw [h'] at h; cases h
    · simp only [decide_eq_true_eq] at h
      have hk : K < xs.length := by omega
      obtain ⟨hc, hcm⟩ := hm.m.capOk
      have et : take_ xs (K : Int) = ((xs.getD K ⟨#[]⟩, 0), cut xs K) := by
        unfold take_; rw [hh, decide_eq_true (by omega)]; rfl
      rw [et] at er hn2
      have hrow : Rows (G2.and H2) .str w xs := (hm2.m.rows (by decide)).le (Claim.le_trans hb2 (Claim.le_and_right _ _))
      obtain ⟨(x : ByteArray), (hx : xs[K]? = some x), hat2⟩ := hrow.get (j := (K : Int)) (by omega) h
      have ex : xs.getD K ⟨#[]⟩ = x := by rw [List.getD_eq_getElem?_getD, hx]; rfl
      rw [ex] at er
      subst er
      refine wp_must (fun _ => ⟨by omega, h, hrow.some (by omega) h⟩) (wp_load (r := x) (fun _ => hat2) (wp_cond (fun hq => ?_) (fun _ => ?_)))
      · exfalso
        have hq' : (!(x.toList == x.toList)) = true := hq
        rw [toList_beq, beq_self] at hq'
        cases hq'
      have hcap0 : ¬ w.cap = 0 := by omega
      have ea : (if w.cap = 0 then w.a else Option.map (fun x => x.add (0 * 1)) w.a) = w.a := by
        rw [if_neg hcap0]
        cases w.a with
        | none => rfl
        | some a => simp [Addr.add_zero]
      have hwK : IntKind.i64.wrap ((K : Int) + 1) = ((K + 1 : Nat) : Int) := by rw [wrap_i64 (by omega) (by omega)]; omega
      have ej : ((K + 1 : Nat) : Int).toNat = K + 1 := by omega
      rw [ea, hwK, ej]
      have lt1 : (xs.take K).length = K := by rw [List.length_take]; omega
      have lt2 : (xs.drop (K + 1)).length = xs.length - (K + 1) := List.length_drop
      refine wp_lit fun n8 G3 g3 d3 _ _ a8 => wp_must (fun _ => ⟨⟨by omega, by omega⟩, trivial⟩) ?_
      have hfront : Rows (G3.and H2) .str ⟨w.a, (K : Int).toNat - 0, w.cap - 0⟩ (xs.take K) :=
        (Mine.rows (by decide) (Mine.front hm.m (by decide) (show K ≤ xs.length by omega))).le (Claim.le_trans hb2 (Claim.le_and_right _ _))
      refine wp_append_row (sh := .str) (xs := []) (ys := xs.take K) rfl (Claim.none_le _) d3 (Row.empty 9 .str (a8 rfl)) hfront (show 0 + (xs.take K).length ≤ maxLen by rw [lt1]; simp only [maxLen]; omega) (show (0 + (xs.take K).length) * 16 ≤ 140737488355328 by rw [lt1]; omega) (by decide) ?_
      intro q9 H4 B4 k1 k2 k3 k4 k5
      obtain ⟨hb4, hs4⟩ := k4 B hb2 (Claim.disj_none _)
      obtain ⟨ha4, hsA4⟩ := k4 A2 l2 (Claim.disj_none _)
      have hr : Rows (G3.and H4) .str ⟨(if w.cap = K + 1 then w.a else Option.map (fun x => x.add ((K + 1) * 1)) w.a), w.len - (K + 1), w.cap - (K + 1)⟩ (xs.drop (K + 1)) :=
        Rows.drop (sh := .str) ((hm.m.rows (by decide)).le (Claim.le_trans hb4 (Claim.le_and_right _ _))) (show K + 1 ≤ xs.length by omega) (by omega)
      have k1' : Row G3 B4 9 .str q9 (xs.take K) := k1
      have b1 : (xs.take K).length + (xs.drop (K + 1)).length ≤ maxLen := by rw [lt1, lt2]; simp only [maxLen]; omega
      have b2 : ((xs.take K).length + (xs.drop (K + 1)).length) * 16 ≤ 140737488355328 := by rw [lt1, lt2]; omega
      refine wp_must (fun _ => ⟨trivial, by omega, by omega⟩) (wp_append_row (sh := .str) (xs := xs.take K) (ys := xs.drop (K + 1)) rfl k3 k5 k1' hr b1 b2 (by decide) ?_)
      intro q10 H5 B5 j1 j2 j3 j4 j5
      obtain ⟨ha5, hsA5⟩ := j4 A2 ha4 hsA4
      have hf' : Fine (cut xs K) := by have := fine_take (i := (K : Int)) hf; rwa [et] at this
      exact want_tail (xs := cut xs K) ⟨A2, B5, ha5, j3, hsA5, hn2, j1⟩ fun G4 H4 g4 d4 h4 => next h4 hf'
    · simp only [decide_eq_false_iff_not] at h
      have et : take_ xs (K : Int) = ((⟨#[]⟩, 2202), xs) := by unfold take_; rw [hh, decide_eq_false h]; rfl
      rw [et] at hn2
      exact want_tail (xs := xs) ⟨A2, B, l2, hb2, Claim.disj_symm hs2, hn2, hm2⟩ fun G4 H4 g4 d4 h4 => next h4 hf
  · obtain ⟨A, B, ha, hb, hs, hn, hm⟩ := hw
    refine wp_call_part ha (c13 (i := (K : Int)) hn) rfl ?_
    rintro (r5 : Int) G2 H2 A2 g2 d2 ⟨er, hn2⟩ l2 hX
    obtain ⟨hb2, hs2⟩ := hX B hb (Claim.disj_symm hs)
    have hm2 := hm.le g2
    have hh : hasAt xs (K : Int) = decide ((K : Int) < (w.len : Int)) := by unfold hasAt; rw [hlw]; simp
    have er2 : (r5 == (0 : Int)) = (bif decide ((K : Int) < (w.len : Int)) then decide ((w.len : Int) < (32 : Int)) else false) := by
      subst er
      unfold copy
      rw [hh]
      by_cases h : (K : Int) < (w.len : Int)
      · rw [decide_eq_true h, if_pos rfl, cond_true]
        refine zero_beq (fun h => ?_) (fun h => ?_)
        · unfold add; rw [if_pos (by omega)]
        · unfold add; rw [if_neg (by omega)]; simp
      · rw [decide_eq_false h, if_neg (by simp), cond_false]; rfl
    refine wp_dcall p8 (wp_cond (fun h => ?_) (fun _ => wp_cond (fun h => ?_) (fun h => ?_)))
    · have h' := beq_dec er2
      rw [h'] at h; cases h
    · have h2 : (bif decide ((K : Int) < (w.len : Int)) then decide ((w.len : Int) < (32 : Int)) else false) = true := er2.symm.trans h
      have h3 : (K : Int) < (w.len : Int) := by
        by_cases h : (K : Int) < (w.len : Int)
        · exact h
        · simp [h] at h2
      have h4 : xs.length < 32 := by
        rw [decide_eq_true h3, cond_true] at h2
        simp only [decide_eq_true_eq] at h2
        omega
      have hrow : Rows (G2.and H2) .str w xs := (hm2.m.rows (by decide)).le (Claim.le_trans hb2 (Claim.le_and_right _ _))
      obtain ⟨(x : ByteArray), (hx : xs[K]? = some x), hat2⟩ := hrow.get (j := (K : Int)) (by omega) h3
      have ex : xs.getD K ⟨#[]⟩ = x := by rw [List.getD_eq_getElem?_getD, hx]; rfl
      have ea : copy xs (K : Int) = (0, xs ++ [x]) := by
        unfold copy
        rw [hh, decide_eq_true h3, if_pos rfl]
        show add xs (xs.getD K ⟨#[]⟩) = _
        rw [ex]
        unfold add
        rw [if_pos h4]
      have hf' : Fine (xs ++ [x]) := by have := fine_copy (i := (K : Int)) hf; rwa [ea] at this
      rw [ea] at hn2
      refine wp_must (fun _ => ⟨by omega, h3, hrow.some (by omega) h3⟩) (wp_load (r := x) (fun _ => hat2) ?_)
      refine wp_push_row (sh := .str) (x := x) (xs := xs) rfl rfl hb2 hm2 (show xs.length + 1 ≤ maxLen by simp only [maxLen]; omega) (show (xs.length + 1) * 16 ≤ 140737488355328 by omega) (by decide) ?_
      intro G3 q H3 B3 g3 k1 k2 k3 k4 k5
      obtain ⟨ha3, hs3⟩ := k4 A2 l2 (Claim.disj_symm hs2)
      exact want_tail (xs := xs ++ [x]) ⟨A2, B3, ha3, k3, hs3, hn2, k1⟩ fun G4 H4 g4 d4 h4 => next h4 hf'
    · have h2 : (bif decide ((K : Int) < (w.len : Int)) then decide ((w.len : Int) < (32 : Int)) else false) = false := er2.symm.trans h
      have ea : (copy xs (K : Int)).2 = xs := by
        unfold copy
        rw [hh]
        by_cases h3 : (K : Int) < (w.len : Int)
        · rw [decide_eq_true h3, cond_true] at h2
          simp only [decide_eq_false_iff_not] at h2
          rw [decide_eq_true h3, if_pos rfl]
          unfold add
          rw [if_neg (by omega)]
        · rw [decide_eq_false h3, if_neg (by simp)]
      rw [ea] at hn2
      exact want_tail (xs := xs) ⟨A2, B, l2, hb2, Claim.disj_symm hs2, hn2, hm2⟩ fun G4 H4 g4 d4 h4 => next h4 hf
end Go.Ev.Nets
