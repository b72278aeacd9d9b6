/- Rows that are lent, kept, spoiled. -/
import Derived.Test.YtcneiffdekbmnaacRef3
namespace Go.Ev.Cache
open Go Go.Ev Go.Proofs

def mark : D25 := ((0, 0, 0, 0, 0), 77777, false, 0, 0)

structure Lent (G H : Claim) (xs : List D25) (r : Sl) (H' : Claim) : Prop where
  m : ∃ q : Sl, Mine H' 26 S25 q (xs ++ [mark, mark]) ∧ r = ⟨q.a, xs.length, q.cap⟩
  n : New G H r
  hk : H.le H'

theorem c4 {G H : Claim} {s : Sl} {xs : List D25} (hs : Rows G S25 s xs) (hb : xs.length ≤ big) :
    CallAt cx.P 4 [.slice s.a s.len s.cap] G H .slice (fun r _ H' => Lent G H xs r H') := by
  have hbig : xs.length ≤ 2000000 := hb
  have l1 : s.len = xs.length := hs.len
  refine call_of ok Try.func4 (T4_eq s) (wp_call (c20 hs hb) ?_)
  intro r G' H' hle hdd hg
  refine wp_lit fun n G2 hle2 hd2 hgn hhn hat => ?_
  refine wp_append' (sh := S25) (xs := xs) (ys := [mark, mark]) (G0 := G) (H0 := H) rfl hg.1 ⟨rfl, (by show 2 ≤ maxLen; decide), fun _ => ⟨_, rfl, ?_⟩⟩ (by show xs.length + 2 ≤ maxLen; simp only [maxLen]; omega)
    (by show (xs.length + 2) * 72 ≤ 140737488355328; omega) (by decide) (Claim.le_trans hle hle2) hg.2.2 hg.2.1 ?_
  · refine Claim.at_le (Claim.le_and_left _ _ hd2) ?_
    exact at_of (hat rfl)
  · intro q H2 m1 m2 m3 m4 m5 m6
    have hm : Mine H2 26 S25 q (xs ++ [mark, mark]) := m1
    have hql : q.len = (xs ++ [mark, mark]).length := (hm.rows (by decide)).len
    simp only [List.length_append, List.length_cons, List.length_nil] at hql
    have hcap : q.len ≤ q.cap := by
      rcases hm.2 with ⟨e1, _⟩ | ⟨g, cur, e1, e2, e3, _⟩
      · omega
      · exact e3
    have hc0 : ¬ q.cap = 0 := by omega
    have ha : (if q.cap = 0 then q.a else Option.map (fun x => x.add (0 * 9)) q.a) = q.a := by
      rw [if_neg hc0]
      cases q.a with
      | none => rfl
      | some a => simp [Addr.add_zero]
    refine wp_must (fun _ => ⟨⟨by omega, by omega⟩, trivial⟩) (wp_ret ⟨⟨q.a, xs.length, q.cap⟩, ?_, ⟨q, hm, rfl⟩, ?_, m4⟩)
    · rw [ha]
      show Value.slice q.a (s.len - 0) (q.cap - 0) = Value.slice q.a xs.length q.cap
      rw [l1]; rfl
    · rintro b ⟨a, e, rfl⟩
      exact m3 _ ⟨a, e, rfl⟩

/-- what is written over -/
structure Spoilt (H : Claim) (s : Sl) (H' : Claim) : Prop where
  other : ∀ b, ¬ s.in b → H' b = H b
  still : ∀ b, H b ≠ none → H' b ≠ none
  disj : ∀ b, H b = none → H' b = none

theorem c17 {G H : Claim} {s : Sl} {xs : List D25} (hs : MineO H s xs) (hd : G.disj H) :
    CallAt cx.P 17 [.slice s.a s.len s.cap] G H (.tup .unit) (fun _ _ H' => Spoilt H s H') := by
  obtain ⟨h1, h2, h3⟩ := hs
  refine call_of ok Try.func17 (T17_eq s) ?_
  by_cases hx : xs = []
  · subst hx
    have hl : s.len = 0 := h1
    refine wp_loop (fun (v : Int × Unit) G' H' => v.1 = 0 ∧ H' = H) (fun _ _ _ => 0) ⟨rfl, rfl⟩ ?_
    rintro ⟨v, u⟩ G' H' hle hdd ⟨rfl, rfl⟩
    dsimp only
    refine wp_cond (fun hc => ?_) (fun hc => wp_pop (wp_ret ⟨(), rfl, ⟨fun _ _ => rfl, fun _ h => h, fun _ h => h⟩⟩))
    simp [hl] at hc
  · obtain ⟨g, off, cur, e1, e2, e3⟩ := h3 hx
    have l1 : s.len = xs.length := h1
    refine wp_loop (fun (v : Int × Unit) _ H' => ∃ (i : Nat) (c : Array Value), v.1 = i ∧ i ≤ s.len ∧ H' g = some (.cells c 26 (0, 0)) ∧ (∀ b, b ≠ g → H' b = H b) ∧ (c.toList.drop (off + i * 9)).take ((xs.length - i) * 9) = (xs.drop i).flatMap S25.flat) (fun (v : Int × Unit) _ _ => s.len - v.1.toNat)
      ⟨0, cur, rfl, Nat.zero_le _, e2, fun _ _ => rfl, by simpa using e3⟩ ?_
    rintro ⟨v, u⟩ G' H' hle hdd ⟨i, c, rfl, hi, f1, f2, f3⟩
    dsimp only
    refine wp_cond (fun hc => ?_) (fun hc => ?_)
    · simp only [decide_eq_true_eq] at hc
      have hil : i < xs.length := by omega
      obtain ⟨x, hx'⟩ : ∃ x, xs[i]? = some x := ⟨xs[i], by simp [hil]⟩
      have hk : xs.length - i = (xs.length - (i + 1)) + 1 := by omega
      have e4 : (c.toList.drop (off + i * 9)).take ((xs.length - i) * 9) = S25.flat x ++ (xs.drop (i + 1)).flatMap S25.flat := by
        rw [f3, drop_cons hx']; rfl
      have hcell : c[off + i * 9 + 5]? = some (.int .i64 x.2.1) := by
        have h5 : ((c.toList.drop (off + i * 9)).take ((xs.length - i) * 9))[5]? = some (.int .i64 x.2.1) := by rw [e4]; rfl
        rw [List.getElem?_take] at h5
        split at h5
        · rw [List.getElem?_drop] at h5
          simpa using h5
        · cases h5
      have hlt := (Array.getElem?_eq_some_iff.1 hcell).1
      have ea : (((s.a.getD { block := 0, off := 0 }).add ((i : Int).toNat * 9)).add 5) = ⟨g, off + i * 9 + 5, none⟩ := by
        rw [e1]
        show (((⟨g, off, none⟩ : Addr).add (i * 9)).add 5) = _
        rw [Addr.add_mk, Addr.add_mk]
      have hsome : s.a.isSome = true := by rw [e1]; rfl
      have hw := wrap_next hc h2
      refine wp_must (fun _ => ⟨by omega, hc, hsome⟩) (wp_load (r := (x.2.1 : Int)) (fun _ => ?_) (wp_must (fun _ => ⟨by omega, hc, hsome⟩) ?_))
      · rw [ea]
        refine Claim.at_le (Claim.le_and_right _ _) ?_
        intro k v hv
        have hk0 : k = 0 ∧ v = .int .i64 x.2.1 := by
          cases k with
          | zero => exact ⟨rfl, (Option.some.inj hv).symm⟩
          | succ k => simp [Sh.flat] at hv
        obtain ⟨rfl, rfl⟩ := hk0
        rw [Addr.add_zero]
        unfold Claim.cell?
        simp only [f1, Option.isSome_none, Bool.false_eq_true, if_false]
        exact hcell
      · rw [ea]
        refine wp_store (c := c) (ty := 26) f1 rfl (by show off + i * 9 + 5 + 1 ≤ c.size; omega) (wp_again ⟨⟨i + 1, _, hw, by omega, Claim.upd_same _ _ _, fun b hb => (Claim.upd_ne _ _ hb).trans (f2 b hb), ?_⟩, ?_⟩)
        · have hlen : (c.toList.take (off + i * 9 + 5) ++ [Value.int .i64 (bitsI BinOp.xor IntKind.i64 x.2.1 90)]).length = off + i * 9 + 6 := by simp; omega
          have e8 : (S25.flat x).length = 9 := Sh.flat_length S25 x
          have e9 : (c.toList.drop (off + i * 9 + 9)).take ((xs.length - i) * 9 - 9) = (xs.drop (i + 1)).flatMap S25.flat := by
            have := congrArg (List.drop 9) e4
            rw [List.drop_take, List.drop_drop, ← e8, List.drop_left, e8] at this
            exact this
          show (List.drop (off + (i + 1) * 9) ((c.toList.take (off + i * 9 + 5) ++ [Value.int .i64 (bitsI BinOp.xor IntKind.i64 x.2.1 90)]) ++ c.toList.drop (off + i * 9 + 5 + 1))).take ((xs.length - (i + 1)) * 9) = _
          rw [List.drop_append, hlen, List.drop_eq_nil_of_le (by omega), List.nil_append, List.drop_drop]
          rw [show off + i * 9 + 5 + 1 + (off + (i + 1) * 9 - (off + i * 9 + 6)) = off + i * 9 + 9 from by omega, show (xs.length - (i + 1)) * 9 = (xs.length - i) * 9 - 9 from by omega]
          exact e9
        · simp only [hw]; omega
    · refine wp_pop (wp_ret ⟨(), rfl, ⟨fun b hb => f2 b ?_, fun b hb => ?_, fun b hb => ?_⟩⟩)
      · rintro rfl; exact hb ⟨_, e1, rfl⟩
      · by_cases h : b = g
        · subst h; rw [f1]; simp
        · rw [f2 b h]; exact hb
      · by_cases h : b = g
        · subst h; rw [e2] at hb; cases hb
        · rw [f2 b h]; exact hb
end Go.Ev.Cache
