/- NetForms: packets, places that are none; a full net. -/
import Derived.Test.YtbnlfcdnjnimmaanAwake
namespace Go.Ev.Nets
open Go Go.Ev Go.Proofs

def zeros (n : Nat) : ByteArray := ⟨(List.replicate n (0 : UInt8)).toArray⟩
theorem zeros_size (n : Nat) : (zeros n).size = n := by
  show (List.replicate n (0 : UInt8)).toArray.size = n
  simp
theorem zeros_cells : ∀ n : Nat, ((zeros n).data.toList.map fun b => Value.int .u8 b.toNat) = repeatL [.int .u8 0] n
  | 0 => rfl
  | n + 1 => by
    have ih := zeros_cells n
    have e : (zeros (n + 1)).data.toList = 0 :: (zeros n).data.toList := by
      show (List.replicate (n + 1) (0 : UInt8)).toArray.toList = 0 :: (List.replicate n (0 : UInt8)).toArray.toList
      rfl
    rw [e, List.map_cons, ih]
    rfl
theorem at_eq {S : Claim} {a : Addr} {u v : List Value} (h : S.at a u) (e : u = v) : S.at a v := e ▸ h
theorem bytes5 : (cx.P.bytesOf 5 : Nat) = 1 := by kernel_rfl

theorem take_no {xs : Texts} {i : Int} (h : hasAt xs i = false) : take_ xs i = ((⟨#[]⟩, 2202), xs) := by unfold take_; rw [h]; rfl
theorem copy_no {xs : Texts} {i : Int} (h : hasAt xs i = false) : copy xs i = (2202, xs) := by unfold copy; rw [h]; rfl
theorem add_full {xs : Texts} {x : ByteArray} (h : xs.length = 32) : add xs x = (2201, xs) := by unfold add; rw [if_neg (by omega)]
theorem send_fine {xs : Texts} {x : ByteArray} (h : bad x = false) : send xs x = add xs x := by unfold send; rw [h]; rfl

theorem c5 {G0 : Claim} {x : Int} : CallAt cx.P 5 [.int .i64 x] G0 Claim.none .bool (fun r _ _ => r = true) := by
  obtain ⟨K, hK, hK31⟩ := and_mask x 1023 (by decide)
  have hK' : bitsI BinOp.and IntKind.i64 x (1023 : Int) = (K : Int) := hK
  have w1 : IntKind.i64.wrap ((1 : Int) + (K : Int)) = ((K + 1 : Nat) : Int) := by rw [wrap_i64 (by omega) (by omega)]; omega
  have w2 : IntKind.i64.wrap ((512 : Int) + ((K + 1 : Nat) : Int)) = ((K + 513 : Nat) : Int) := by rw [wrap_i64 (by omega) (by omega)]; omega
  have w3 : IntKind.i64.wrap ((0 : Int) - ((K + 1 : Nat) : Int)) = -((K + 1 : Nat) : Int) := by rw [wrap_i64 (by omega) (by omega)]; omega
  have w4 : IntKind.i64.wrap ((31 : Int) + ((K + 1 : Nat) : Int)) = ((K + 32 : Nat) : Int) := by rw [wrap_i64 (by omega) (by omega)]; omega
  refine call_of ok Try.func5 (T5_eq x) (wp_dcall p18 (wp_cond (fun h => by cases h) (fun _ => wp_call c7 ?_)))
  intro p G1 H1 g1 d1 hn
  have hp : p.isNone = false := by obtain ⟨n, _, _, _, _, _, _, rfl, _⟩ := hn; rfl
  refine wp_cond (fun h => by rw [show Option.isNone p = false from hp] at h; cases h) (fun _ => ?_)
  rw [hK', w1, w2, w3, w4, bytes5]
  refine wp_must ⟨by omega, by omega, by omega, by omega⟩ (wp_new fun n2 gn2 hn2 => ?_)
  refine ⟨zeros (K + 513), ?_, fun _ => ⟨_, rfl, ?_⟩, ?_⟩
  · rw [zeros_size]; rfl
  · refine Claim.at_le (Claim.le_and_right _ _) ?_
    rw [zeros_cells]
    exact upd_at _ _ _ _ _
  have hb1 : bad (zeros (K + 513)) = true := by unfold bad; rw [zeros_size]; simp
  refine wp_call (c9 (x := zeros (K + 513)) (hn.le (Claim.le_upd hn2))) ?_
  rintro (r4 : Int) G2 H2 g2 d2 ⟨e4, hn⟩
  have es4 : send [] (zeros (K + 513)) = (2200, []) := by unfold send; rw [hb1]; rfl
  rw [es4] at e4 hn
  subst e4
  refine wp_must ⟨by decide, by decide, by decide, by decide⟩ (wp_new fun n5 gn5 hn5 => ?_)
  refine ⟨zeros 512, by kernel_rfl, fun _ => ⟨_, rfl, ?_⟩, ?_⟩
  · exact Claim.at_le (Claim.le_and_right _ _) (at_eq (upd_at _ _ _ _ _) (by kernel_rfl))
  refine wp_call (c9 (x := zeros 512) (hn.le (Claim.le_upd hn5))) ?_
  rintro (r7 : Int) G3 H3 g3 d3 ⟨e7, hn⟩
  have hb2 : bad (zeros 512) = false := by kernel_rfl
  have es7 : send [] (zeros 512) = (0, [zeros 512]) := by rw [send_fine hb2]; rfl
  rw [es7] at e7 hn
  subst e7
  refine wp_loop (fun (v : Int × Unit) _ H' => ∃ (i : Nat) (xs : Texts), v.1 = i ∧ 1 ≤ i ∧ i ≤ 32 ∧ xs.length = i ∧ NetIs H' p xs) (fun (v : Int × Unit) _ _ => 32 - v.1.toNat) ⟨1, [zeros 512], rfl, Nat.le_refl _, by decide, rfl, hn⟩ ?_
  rintro ⟨v, u⟩ G H hle hd ⟨i, xs, rfl, hi1, hi, hl, hn⟩
  dsimp only
  refine wp_cond (fun hc => ?_) (fun hc => wp_pop ?_)
  · simp only [decide_eq_true_eq] at hc
    refine wp_call (c9 (x := tx) hn) ?_
    rintro (r9 : Int) G4 H4 g4 d4 ⟨e9, hn⟩
    have hbx : bad tx = false := by kernel_rfl
    have es9 : send xs tx = (0, xs ++ [tx]) := by rw [send_fine hbx]; unfold add; rw [if_pos (by omega)]
    rw [es9] at e9 hn
    subst e9
    have hw : IntKind.i64.wrap ((i : Int) + 1) = ((i + 1 : Nat) : Int) := by rw [wrap_i64 (by omega) (by omega)]; omega
    refine wp_dcall p8 (wp_cond (fun h => by cases h) (fun _ => wp_again ⟨⟨i + 1, xs ++ [tx], hw, by omega, by omega, by simp [hl], hn⟩, ?_⟩))
    show 32 - (IntKind.i64.wrap ((i : Int) + 1)).toNat < 32 - (i : Int).toNat
    rw [hw]; omega
  · simp only [decide_eq_false_iff_not] at hc
    have hl : xs.length = 32 := by omega
    -- it is full
    refine wp_call (c9 (x := ty) hn) ?_
    rintro (r9 : Int) G4 H4 g4 d4 ⟨e9, hn⟩
    have hby : bad ty = false := by kernel_rfl
    rw [send_fine hby, add_full hl] at e9 hn
    subst e9
    refine wp_call (c13 (i := 0) hn) ?_
    rintro (r10 : Int) G5 H5 g5 d5 ⟨e10, hn⟩
    have ec : copy xs 0 = (2201, xs) := by
      unfold copy
      rw [show hasAt xs 0 = true from by unfold hasAt; rw [hl]; rfl, if_pos rfl]
      exact add_full hl
    rw [ec] at e10 hn
    subst e10
    have no1 : hasAt xs (-((K + 1 : Nat) : Int)) = false := by unfold hasAt; rw [decide_eq_false (by omega)]; rfl
    have no2 : hasAt xs ((K + 32 : Nat) : Int) = false := by unfold hasAt; rw [hl, decide_eq_false (p := ((K + 32 : Nat) : Int) < ((32 : Nat) : Int)) (by omega), Bool.and_false]
    refine wp_call (c11 (i := -((K + 1 : Nat) : Int)) hn) ?_
    rintro (r11 : ByteArray × Int) G6 H6 g6 d6 ⟨e11, hn⟩
    rw [take_no no1] at e11 hn
    subst e11
    refine wp_call (c11 (i := ((K + 32 : Nat) : Int)) hn) ?_
    rintro (r12 : ByteArray × Int) G7 H7 g7 d7 ⟨e12, hn⟩
    rw [take_no no2] at e12 hn
    subst e12
    refine wp_call (c13 (i := -((K + 1 : Nat) : Int)) hn) ?_
    rintro (r13 : Int) G8 H8 g8 d8 ⟨e13, hn⟩
    rw [copy_no no1] at e13 hn
    subst e13
    refine wp_call (c11 (i := 31) hn) ?_
    rintro (r14 : ByteArray × Int) G9 H9 g9 d9 ⟨e14, hn⟩
    have et : take_ xs 31 = ((xs.getD 31 ⟨#[]⟩, 0), cut xs 31) := by
      unfold take_
      rw [show hasAt xs 31 = true from by unfold hasAt; rw [hl]; rfl]; rfl
    rw [et] at e14 hn
    subst e14
    have hlc : (cut xs 31).length = 31 := by simp [cut, hl]
    refine wp_call (c13 (i := 0) hn) ?_
    rintro (r15 : Int) G10 H10 g10 d10 ⟨e15, hn⟩
    have ec2 : copy (cut xs 31) 0 = (0, cut xs 31 ++ [(cut xs 31).getD 0 ⟨#[]⟩]) := by
      unfold copy
      rw [show hasAt (cut xs 31) 0 = true from by unfold hasAt; rw [hlc]; rfl, if_pos rfl]
      unfold add
      rw [if_pos (by omega)]
      rfl
    rw [ec2] at e15 hn
    subst e15
    refine wp_dcall p8 (wp_dcall p8 (wp_dcall p8 (wp_dcall p8 (wp_dcall p8 (wp_dcall p8 (wp_dcall p8 (wp_dcall p8 (wp_dcall p8 ?_))))))))
    refine wp_callG_part (by kernel_rfl) (Claim.le_refl _) (c15 hn) rfl ?_
    rintro r25 G11 H11 K11 g11 d11 ⟨R, hR, _, _⟩ _ _
    have h25 : r25.len = 32 := by
      have := Mine.len hR (by decide)
      rw [this]
      show (cut xs 31 ++ [_]).length = 32
      simp [hlc]
    refine wp_ret ⟨true, ?_, rfl⟩
    show Value.bool (bif true then ((r25.len : Nat) : Int) == (32 : Int) else false) = Value.bool true
    rw [h25]; rfl
end Go.Ev.Nets
