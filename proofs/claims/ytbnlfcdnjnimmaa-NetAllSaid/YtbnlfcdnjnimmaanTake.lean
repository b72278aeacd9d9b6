/- The document's Take; nets and the document's side by side. -/
import Derived.Test.YtbnlfcdnjnimmaanRef
namespace Go.Ev.Nets
open Go Go.Ev Go.Proofs

theorem c12 {G H : Claim} {p : Option Addr} {xs : Texts} {i : Int} (h : RefIs H p xs) (hb : xs.length ≤ 32) :
    CallAt cx.P 12 [.pointer p, .int .i64 i] G H (.tup (.pair .str (.int .i64))) (fun (r : ByteArray × Int) _ H' => r = (take_ xs i).1 ∧ RefIs H' p (take_ xs i).2) := by
  have h0 := h
  obtain ⟨n, s, rfl, h2, h3, h4⟩ := h
  have hl : s.len = xs.length := h4.len (by decide)
  obtain ⟨hc, hcm⟩ := h4.capOk
  have hat := fun (A : Claim) => Claim.at_le (Claim.le_and_right A H) (at_field (o := 0) (k := 0) (v := .slice s.a s.len s.cap) h2 rfl)
  refine call_of ok Try.func12 (T12_eq _ i) (wp_must (fun _ => rfl) (wp_load (r := s) (fun _ => hat _) ?_))
  rw [guard_has hl]
  unfold take_
  cases hh : hasAt xs i with
  | false => exact wp_cond (fun _ => wp_ret ⟨((⟨#[]⟩ : ByteArray), (2202 : Int)), rfl, rfl, h0⟩) (fun h => by cases h)
  | true =>
    obtain ⟨k, rfl, hk⟩ := hasAt_iff hh
    have hrow : Rows (G.and H) .str s xs := (h4.rows (by decide)).le (Claim.le_and_right _ _)
    have hks : (k : Int) < (s.len : Int) := by omega
    obtain ⟨(x : ByteArray), (hx : xs[k]? = some x), hat2⟩ := hrow.get (j := (k : Int)) (by omega) hks
    refine wp_cond (fun h => by cases h) (fun _ => wp_must (fun _ => rfl) (wp_load (r := s) (fun _ => hat _) (wp_must (fun _ => ⟨by omega, hks, hrow.some (by omega) hks⟩) (wp_load (r := x) (fun _ => hat2) (wp_lit fun n3 G1 g1 d1 gn hn _ => ?_)))))
    have hcap0 : ¬ s.cap = 0 := by omega
    have ea : (if s.cap = 0 then s.a else Option.map (fun x => x.add (0 * 1)) s.a) = s.a := by
      rw [if_neg hcap0]
      cases s.a with
      | none => rfl
      | some a => simp [Addr.add_zero]
    have lt1 : (xs.take k).length = k := by rw [List.length_take]; omega
    have lt2 : (xs.drop (k + 1)).length = xs.length - (k + 1) := List.length_drop
    have hfront : Rows (G1.and H) .str ⟨(if s.cap = 0 then s.a else Option.map (fun x => x.add (0 * 1)) s.a), (k : Int).toNat - 0, s.cap - 0⟩ (xs.take k) := by
      rw [ea]
      exact (Mine.rows (by decide) (Mine.front h4 (by decide) (show k ≤ xs.length by omega))).le (Claim.le_and_right _ _)
    refine wp_must (fun _ => rfl) (wp_load (r := s) (fun _ => hat _) (wp_must (fun _ => ⟨⟨by omega, by omega⟩, trivial⟩) ?_))
    refine wp_append' (sh := .str) (xs := []) (ys := xs.take k) (G0 := G) (H0 := H) rfl (Mine.nil _ _ _ _) hfront (show 0 + (xs.take k).length ≤ maxLen by rw [lt1]; simp only [maxLen]; omega) (show (0 + (xs.take k).length) * 16 ≤ 140737488355328 by rw [lt1]; omega) (by decide) g1 (Claim.le_refl _) ?_ ?_
    · rintro b ⟨a, e, rfl⟩
      cases e
      constructor
      · exact gn
      · exact hn
    · intro q5 H5 m1 m2 m3 m4 m5 m6
      have hw : IntKind.i64.wrap ((k : Int) + 1) = ((k + 1 : Nat) : Int) := by rw [wrap_i64 (by omega) (by omega)]; omega
      have ej : ((k + 1 : Nat) : Int).toNat = k + 1 := by omega
      have hat5 := fun (A : Claim) => Claim.at_le (Claim.le_and_right A H5) (at_field (o := 0) (k := 0) (v := .slice s.a s.len s.cap) (m4 n _ h2) rfl)
      refine wp_must (fun _ => rfl) (wp_load (r := s) (fun _ => hat5 _) ?_)
      rw [hw]
      refine wp_must (fun _ => ⟨trivial, by omega, by omega⟩) ?_
      have hr : Rows (G1.and H5) .str ⟨(if s.cap = ((k + 1 : Nat) : Int).toNat then s.a else Option.map (fun x => x.add (((k + 1 : Nat) : Int).toNat * 1)) s.a), s.len - ((k + 1 : Nat) : Int).toNat, s.cap - ((k + 1 : Nat) : Int).toNat⟩ (xs.drop (k + 1)) := by
        rw [ej]
        exact Rows.drop (sh := .str) (((h4.le m4).rows (by decide)).le (Claim.le_and_right _ _)) (show k + 1 ≤ xs.length by omega) (by omega)
      have m1' : Mine H5 9 .str q5 (xs.take k) := m1
      have b1 : (xs.take k).length + (xs.drop (k + 1)).length ≤ maxLen := by rw [lt1, lt2]; simp only [maxLen]; omega
      have b2 : ((xs.take k).length + (xs.drop (k + 1)).length) * 16 ≤ 140737488355328 := by rw [lt1, lt2]; omega
      refine wp_append' (sh := .str) (xs := xs.take k) (ys := xs.drop (k + 1)) (G0 := G) (H0 := H) rfl m1' hr b1 b2 (by decide) g1 m4 m3 ?_
      intro q7 H7 k1 k2 k3 k4 k5 k6
      have hq7 : ¬ q7.in n := fun hb => by
        have := (k3 n hb).2
        rw [h2] at this; cases this
      refine wp_must (fun _ => rfl) (wp_store_at (n := n) (off := 0) rfl (k4 n _ h2) (by show 0 + 1 ≤ 1; decide) (wp_ret ⟨(x, (0 : Int)), rfl, ?_, ?_⟩))
      · rw [if_pos rfl]
        show (x, (0 : Int)) = (xs.getD k ⟨#[]⟩, 0)
        rw [List.getD_eq_getElem?_getD, hx]; rfl
      · rw [if_pos rfl]
        exact ⟨n, q7, rfl, Claim.upd_same _ _ _, hq7, Mine.upd k1 hq7⟩

/-! ### what holds of the packets -/
def Fine (xs : Texts) : Prop := xs.length ≤ 32 ∧ ∀ x ∈ xs, bad x = false

theorem Fine.nil : Fine [] := ⟨by simp, fun _ h => by cases h⟩
theorem fine_add {xs : Texts} {x : ByteArray} (h : Fine xs) (hx : bad x = false) : Fine (add xs x).2 := by
  unfold add
  split
  · refine ⟨by simp; omega, fun y hy => ?_⟩
    simp at hy
    rcases hy with hy | rfl
    · exact h.2 y hy
    · exact hx
  · exact h
theorem fine_send {xs : Texts} {x : ByteArray} (h : Fine xs) : Fine (send xs x).2 := by
  unfold send
  cases hb : bad x with
  | true => exact h
  | false => exact fine_add h hb
theorem fine_take {xs : Texts} {i : Int} (h : Fine xs) : Fine (take_ xs i).2 := by
  unfold take_
  split
  · refine ⟨by show (cut xs i.toNat).length ≤ 32; have := h.1; simp [cut]; omega, fun y hy => h.2 y ?_⟩
    have hy' : y ∈ xs.take i.toNat ++ xs.drop (i.toNat + 1) := hy
    rcases List.mem_append.1 hy' with h' | h'
    · exact List.mem_of_mem_take h'
    · exact List.mem_of_mem_drop h'
  · exact h
theorem fine_copy {xs : Texts} {i : Int} (h : Fine xs) : Fine (copy xs i).2 := by
  unfold copy
  split
  · rename_i hh
    obtain ⟨k, rfl, hk⟩ := hasAt_iff hh
    refine fine_add h (h.2 _ ?_)
    rw [List.getD_eq_getElem?_getD]
    show (xs[k]?).getD _ ∈ xs
    rw [List.getElem?_eq_getElem hk]
    exact List.getElem_mem hk
  · exact h
theorem fine_size {xs : Texts} (h : Fine xs) : ∀ x ∈ xs, ByteArray.size x ≤ 1048576 := by
  intro x hx
  have := h.2 x hx
  unfold bad at this
  simp at this
  omega

/-- a net and the document's, of the same packets, apart -/
def Two (H : Claim) (p q : Option Addr) (xs : Texts) : Prop := ∃ A B : Claim, A.le H ∧ B.le H ∧ A.disj B ∧ NetIs A p xs ∧ RefIs B q xs

section
variable {G H : Claim} {p q : Option Addr} {xs : Texts} {E : Env} {Q : Value → Claim → Claim → Prop}

/-- one call at the net, one at the document's: the same comes of both -/
theorem two_calls {f g : FuncId} {u v u' v' : List Value} {sh : Sh} {k : sh.den → sh.den → T} {ys : Texts} {r0 : sh.den} (h : Two H p q xs) (e1 : u = u') (e2 : v = v')
    (h1 : ∀ G A, NetIs A p xs → CallAt cx.P f u' G A sh (fun r _ H' => r = r0 ∧ NetIs H' p ys)) (h2 : ∀ G B, RefIs B q xs → CallAt cx.P g v' G B sh (fun r _ H' => r = r0 ∧ RefIs H' q ys))
    {m : (sh.den → T) → sh.den → T} (hm : ∀ (t : sh.den → T) r G H, (t r).wp cx.P E G H Q → (m t r).wp cx.P E G H Q)
    (hk : ∀ G' H', G.le G' → G'.disj H' → Two H' p q ys → (k r0 r0).wp cx.P E G' H' Q) : (T.call f u sh fun r => m (fun r => T.call g v sh fun r' => k r r') r).wp cx.P E G H Q := by
  obtain ⟨A, B, ha, hb, hd, hn, hr⟩ := h
  refine wp_call_part ha (h1 G A hn) e1 ?_
  rintro r G1 H1 A1 g1 d1 ⟨rfl, hn1⟩ l1 hX
  obtain ⟨hb1, hd1⟩ := hX B hb (Claim.disj_symm hd)
  refine hm _ _ _ _ (wp_call_part hb1 (h2 G1 B hr) e2 ?_)
  rintro r G2 H2 B2 g2 d2 ⟨rfl, hr2⟩ l2 hX2
  obtain ⟨ha2, hd2⟩ := hX2 A1 l1 (Claim.disj_symm hd1)
  exact hk G2 H2 (Claim.le_trans g1 g2) d2 ⟨A1, B2, ha2, l2, hd2, hn1, hr2⟩
end

/-- all packets shown, held against the document's, written over -/
theorem tail_wp {G H : Claim} {E : Env} {Q : Value → Claim → Claim → Prop} {p : Option Addr} {n1 : Nat} {xs : Texts} {t : T} (h : Two H p (some ⟨n1, 0, none⟩) xs) (hf : Fine xs)
    (hk : ∀ G' H', G.le G' → G'.disj H' → Two H' p (some ⟨n1, 0, none⟩) xs → t.wp cx.P E G' H' Q) :
    (T.call 15 [.pointer p] .slice <| fun (r9 : Sl) =>
      .must (true = true → (some (⟨n1, 0, none⟩ : Addr)).isSome = true) <|
      .load (true) .slice (((some (⟨n1, 0, none⟩ : Addr)).getD { block := 0, off := 0 }).add (0)) <| fun (m10 : Sl) =>
       .dcall (true) 16 [.slice r9.a r9.len r9.cap, .slice m10.a m10.len m10.cap] .bool <| fun (r11 : Bool) =>
        .cond (!r11) (
         .pop <|
         .ret (.bool false)) (
         .call 17 [.slice r9.a r9.len r9.cap] (.tup .unit) <| fun (_ : Unit) => t)).wp cx.P E G H Q := by
  obtain ⟨A, B, ha, hb, hd, hn, hr⟩ := h
  refine wp_call_part ha (c15 hn) rfl ?_
  rintro r9 G1 H1 H1' g1 d1 ⟨R, hR, lR, hX⟩ l1 hY
  obtain ⟨hb1, hd1⟩ := hY B hb (Claim.disj_symm hd)
  obtain ⟨ha1, hdA⟩ := hX A (Claim.le_refl _)
  have haH : A.le H1 := Claim.le_trans ha1 l1
  have lRH : R.le H1 := Claim.le_trans lR l1
  have hdB : B.disj R := Claim.disj_le hd1 lR
  have hr0 := hr
  obtain ⟨n, s, en, h2, h3, h4⟩ := hr
  cases en
  have hB : B.le (G1.and H1) := Claim.le_trans hb1 (Claim.le_and_right _ _)
  refine wp_must (fun _ => rfl) (wp_load (r := s) (fun _ => Claim.at_le hB (at_field (o := 0) (k := 0) (v := .slice s.a s.len s.cap) h2 rfl)) ?_)
  have hsame := (p16 ((hR.rows (by decide)).le (Claim.le_trans lRH (Claim.le_and_right G1 H1))) ((h4.rows (by decide)).le hB)).eq (same_self xs)
  refine wp_dcall hsame (wp_cond (fun h => by cases h) (fun _ => ?_))
  refine wp_call_part lRH (c17 hR (fine_size hf)) rfl ?_
  rintro u G2 H2 H2' g2 d2 _ l2 hZ
  obtain ⟨za, _⟩ := hZ A haH hdA
  obtain ⟨zb, _⟩ := hZ B hb1 hdB
  exact hk G2 H2 (Claim.le_trans g1 g2) d2 ⟨A, B, za, zb, hd, hn, hr0⟩
end Go.Ev.Nets
