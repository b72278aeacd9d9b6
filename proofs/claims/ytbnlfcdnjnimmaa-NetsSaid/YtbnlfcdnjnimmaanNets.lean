/- Nets: any sends, takes, copies. -/
import Derived.Test.YtbnlfcdnjnimmaanTake
namespace Go.Ev.Nets
open Go Go.Ev Go.Proofs

theorem bne_int (a : Int) : (a != a) = false := by simp

section
variable {G H : Claim} {p q : Option Addr} {xs ys : Texts} {E : Env} {Q : Value → Claim → Claim → Prop}

theorem two_int {f g : FuncId} {u v : List Value} {z : Int} {t e : T} (h : Two H p q xs)
    (h1 : ∀ G A, NetIs A p xs → CallAt cx.P f u G A (.int .i64) (fun r _ H' => r = z ∧ NetIs H' p ys)) (h2 : ∀ G B, RefIs B q xs → CallAt cx.P g v G B (.int .i64) (fun r _ H' => r = z ∧ RefIs H' q ys))
    (hk : ∀ G' H', G.le G' → G'.disj H' → Two H' p q ys → t.wp cx.P E G' H' Q) :
    (T.call f u (.int .i64) <| fun (r : Int) => .dcall (true) 8 [.int .i64 r] (.int .i64) <| fun (r7 : Int) => .call g v (.int .i64) <| fun (r8 : Int) => .cond (r7 != r8) e t).wp cx.P E G H Q := by
  obtain ⟨A, B, ha, hb, hd, hn, hr⟩ := h
  refine wp_call_part ha (h1 G A hn) rfl ?_
  rintro r G1 H1 A1 g1 d1 ⟨rfl, hn1⟩ l1 hX
  obtain ⟨hb1, hd1⟩ := hX B hb (Claim.disj_symm hd)
  refine wp_dcall p8 (wp_call_part hb1 (h2 G1 B hr) rfl ?_)
  rintro r' G2 H2 B2 g2 d2 ⟨hr', hr2⟩ l2 hX2
  obtain ⟨ha2, hd2⟩ := hX2 A1 l1 (Claim.disj_symm hd1)
  refine wp_cond (fun hc => ?_) (fun _ => hk G2 H2 (Claim.le_trans g1 g2) d2 ⟨A1, B2, ha2, l2, hd2, hn1, hr2⟩)
  subst hr'
  exact absurd hc (Bool.eq_false_iff.mp (bne_int _))

theorem two_take {i : Int} {t e : T} (h : Two H p q xs) (hb : xs.length ≤ 32) (hk : ∀ G' H', G.le G' → G'.disj H' → Two H' p q (take_ xs i).2 → t.wp cx.P E G' H' Q) :
    (T.call 11 [.pointer p, .int .i64 i] (.tup (.pair .str (.int .i64))) <| fun (r5 : (ByteArray × Int)) => .call 12 [.pointer q, .int .i64 i] (.tup (.pair .str (.int .i64))) <| fun (r6 : (ByteArray × Int)) =>
      .dcall (!!ByteArray.toList r5.1 == ByteArray.toList r6.1) 8 [.int .i64 r5.2] (.int .i64) <| fun (r7 : Int) => .cond (bif !ByteArray.toList r5.1 == ByteArray.toList r6.1 then true else r7 != r6.2) e t).wp cx.P E G H Q := by
  obtain ⟨A, B, ha, hbb, hd, hn, hr⟩ := h
  refine wp_call_part ha (c11 (i := i) hn) rfl ?_
  rintro r G1 H1 A1 g1 d1 ⟨hr0, hn1⟩ l1 hX
  obtain ⟨hb1, hd1⟩ := hX B hbb (Claim.disj_symm hd)
  refine wp_call_part hb1 (c12 (i := i) hr hb) rfl ?_
  rintro r' G2 H2 B2 g2 d2 ⟨hr', hr2⟩ l2 hX2
  obtain ⟨ha2, hd2⟩ := hX2 A1 l1 (Claim.disj_symm hd1)
  refine wp_dcall p8 (wp_cond (fun hc => ?_) (fun _ => hk G2 H2 (Claim.le_trans g1 g2) d2 ⟨A1, B2, ha2, l2, hd2, hn1, hr2⟩))
  have e : r = r' := hr0.trans hr'.symm
  subst e
  rw [toList_beq, beq_self] at hc
  simp at hc
end

theorem c3 {W : World} {x0 x1 : Sl} {ts : Texts} {is : List Int} (h0 : Rows (Claim.of W) .str x0 ts) (h1 : Rows (Claim.of W) (.int .i64) x1 is) (haw : ∀ S, PureAt cx.P 18 [] S .bool true) :
    CallAt cx.P 3 [.slice x0.a x0.len x0.cap, .slice x1.a x1.len x1.cap] (Claim.of W) Claim.none .bool (fun r _ _ => r = true) := by
  refine call_of ok Try.func3 (T3_eq x0 x1) (wp_call c7 ?_)
  intro p G0 H0 g0 d0 hn
  refine wp_new fun n1 gn1 hn1 => ?_
  have hp : p.isNone = false := by obtain ⟨n, _, _, _, _, _, _, rfl, _⟩ := hn; rfl
  refine wp_cond (fun h => by rw [show Option.isNone p = false from hp] at h; cases h) (fun _ => ?_)
  have hl0 : x0.len = ts.length := h0.len
  refine wp_loop (fun (v : Int × Unit) _ H' => ∃ i : Nat, v.1 = i ∧ i ≤ x1.len ∧ ∃ xs, Fine xs ∧ Two H' p (some ⟨n1, 0, none⟩) xs) (fun (v : Int × Unit) _ _ => x1.len - v.1.toNat)
    ⟨0, rfl, Nat.zero_le _, [], Fine.nil, H0, fun b => if b = n1 then some (.cells #[.slice none 0 0] 28 (0, 0)) else none, Claim.le_upd hn1, ?_, ?_, hn, n1, ⟨none, 0, 0⟩, rfl, by simp, nil_in, Mine.nil _ _ _ _⟩ ?_
  · intro b o e
    dsimp only at e
    split at e
    · rename_i hb
      subst hb
      rw [Claim.upd_same]; exact e
    · cases e
  · intro b
    by_cases hb : b = n1
    · subst hb; exact .inl hn1
    · exact .inr (if_neg hb)
  rintro ⟨v, u⟩ G H hle hd ⟨i, rfl, hi, xs, hf, htwo⟩
  dsimp only
  have hr0 := h0.and (Claim.le_trans g0 hle) hd
  have hr1 := h1.and (Claim.le_trans g0 hle) hd
  refine wp_cond (fun hc => ?_) (fun _ => wp_pop (wp_dcall (haw _) (wp_ret ⟨true, rfl, rfl⟩)))
  have hc1 : (i : Int) < (x1.len : Int) := by
    by_cases h : (i : Int) < (x1.len : Int)
    · exact h
    · simp [h] at hc
  obtain ⟨(m : Int), (hm : is[i]? = some m), hat⟩ := hr1.get (j := (i : Int)) (by omega) hc1
  have hw := wrap_next hc1 h1.small
  have hs1 := hr1.some (j := (i : Int)) (by omega) hc1
  refine wp_must (fun _ => ⟨by omega, hc1, hs1⟩) (wp_load (r := m) (fun _ => hat) (wp_must (fun _ => by decide) (wp_must (fun _ => ⟨by omega, hc1, hs1⟩) (wp_load (r := m) (fun _ => hat) ?_))))
  -- the next round
  have next : ∀ {G' H' : Claim} {ys : Texts}, Two H' p (some ⟨n1, 0, none⟩) ys → Fine ys →
      (T.again (.pair (.int .i64) .unit) (IntKind.i64.wrap ((i : Int) + 1), ())).wp cx.P (headJ (.pair (.int .i64) .unit) (fun (x' : Int × Unit) G'' H'' => (∃ i : Nat, x'.1 = i ∧ i ≤ x1.len ∧ ∃ xs, Fine xs ∧ Two H'' p (some ⟨n1, 0, none⟩) xs) ∧ x1.len - x'.1.toNat < x1.len - (i : Int).toNat) :: [])
        G' H' (fun v G' H' => ∃ r, v = Sh.bool.enc r ∧ r = true) := by
    intro G' H' ys h2 hy
    refine wp_again ⟨⟨i + 1, hw, by omega, ys, hy, h2⟩, ?_⟩
    show x1.len - (IntKind.i64.wrap ((i : Int) + 1)).toNat < _
    rw [hw]; omega
  refine wp_cond (fun _ => wp_cond (fun _ => ?_) (fun _ => wp_cond (fun _ => ?_) (fun _ => ?_))) (fun _ => wp_cond (fun _ => ?_) (fun _ => wp_cond (fun _ => ?_) (fun _ => ?_)))
  · refine wp_cond (fun hl => ?_) (fun _ => two_int htwo (fun G A hA => c9 (x := ⟨#[122]⟩) hA) (fun G B hB => c10 hB hf.1) fun G' H' _ _ h2 => tail_wp h2 (fine_send hf) fun G'' H'' _ _ h3 => next h3 (fine_send hf))
    have hlen : 0 < x0.len := by simpa using hl
    have hlt := Nat.mod_lt i hlen
    have hlt' : ((i % x0.len : Nat) : Int) < (x0.len : Int) := by omega
    obtain ⟨(x : ByteArray), _, hat0⟩ := hr0.get (j := ((i % x0.len : Nat) : Int)) (by omega) hlt'
    exact wp_must (fun _ => by omega) (wp_must (fun _ => ⟨by show (0 : Int) ≤ ((i % x0.len : Nat) : Int); omega, hlt', hr0.some (j := ((i % x0.len : Nat) : Int)) (by omega) hlt'⟩) (wp_load (r := x) (fun _ => hat0)
      (two_int htwo (fun G A hA => c9 (x := x) hA) (fun G B hB => c10 hB hf.1) fun G' H' _ _ h2 => tail_wp h2 (fine_send hf) fun G'' H'' _ _ h3 => next h3 (fine_send hf))))
  · exact two_take htwo hf.1 fun G' H' _ _ h2 => tail_wp h2 (fine_take hf) fun G'' H'' _ _ h3 => next h3 (fine_take hf)
  · exact two_int htwo (fun G A hA => c13 hA) (fun G B hB => c14 hB hf.1 hf.2) fun G' H' _ _ h2 => tail_wp h2 (fine_copy hf) fun G'' H'' _ _ h3 => next h3 (fine_copy hf)
  · refine wp_cond (fun hl => ?_) (fun _ => two_int htwo (fun G A hA => c9 (x := ⟨#[122]⟩) hA) (fun G B hB => c10 hB hf.1) fun G' H' _ _ h2 => tail_wp h2 (fine_send hf) fun G'' H'' _ _ h3 => next h3 (fine_send hf))
    have hlen : 0 < x0.len := by simpa using hl
    have hlt := Nat.mod_lt i hlen
    have hlt' : ((i % x0.len : Nat) : Int) < (x0.len : Int) := by omega
    obtain ⟨(x : ByteArray), _, hat0⟩ := hr0.get (j := ((i % x0.len : Nat) : Int)) (by omega) hlt'
    exact wp_must (fun _ => by omega) (wp_must (fun _ => ⟨by show (0 : Int) ≤ ((i % x0.len : Nat) : Int); omega, hlt', hr0.some (j := ((i % x0.len : Nat) : Int)) (by omega) hlt'⟩) (wp_load (r := x) (fun _ => hat0)
      (two_int htwo (fun G A hA => c9 (x := x) hA) (fun G B hB => c10 hB hf.1) fun G' H' _ _ h2 => tail_wp h2 (fine_send hf) fun G'' H'' _ _ h3 => next h3 (fine_send hf))))
  · exact two_take htwo hf.1 fun G' H' _ _ h2 => tail_wp h2 (fine_take hf) fun G'' H'' _ _ h3 => next h3 (fine_take hf)
  · exact two_int htwo (fun G A hA => c13 hA) (fun G B hB => c14 hB hf.1 hf.2) fun G' H' _ _ h2 => tail_wp h2 (fine_copy hf) fun G'' H'' _ _ h3 => next h3 (fine_copy hf)
end Go.Ev.Nets
