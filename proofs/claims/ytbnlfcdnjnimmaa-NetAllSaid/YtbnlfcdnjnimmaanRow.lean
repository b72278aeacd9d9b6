/- Take, Copy, All; rows of texts compared, copied, spoiled; the document's net. -/
import Derived.Test.YtbnlfcdnjnimmaanDel
namespace Go.Ev.Nets
open Go Go.Ev Go.Proofs

def cut (xs : Texts) (i : Nat) : Texts := xs.take i ++ xs.drop (i + 1)
def take_ (xs : Texts) (i : Int) : (ByteArray × Int) × Texts := if hasAt xs i then ((xs.getD i.toNat ⟨#[]⟩, 0), cut xs i.toNat) else ((⟨#[]⟩, 2202), xs)

theorem hasAt_iff {xs : Texts} {i : Int} (h : hasAt xs i = true) : ∃ k : Nat, i = k ∧ k < xs.length := by
  unfold hasAt at h
  simp only [Bool.and_eq_true, decide_eq_true_eq] at h
  exact ⟨i.toNat, by omega, by omega⟩

theorem c11 {G H : Claim} {p : Option Addr} {xs : Texts} {i : Int} (h : NetIs H p xs) :
    CallAt cx.P 11 [.pointer p, .int .i64 i] G H (.tup (.pair .str (.int .i64))) (fun (r : ByteArray × Int) _ H' => r = (take_ xs i).1 ∧ NetIs H' p (take_ xs i).2) := by
  have hp : p.isNone = false := by obtain ⟨n, _, _, _, _, _, _, rfl, _⟩ := h; rfl
  refine call_of ok Try.func11 (T11_eq p i) (wp_cond (fun h => by rw [hp] at h; cases h) (fun _ => wp_dcall (p20 (i := i) (h.le (Claim.le_and_right _ _))) ?_))
  unfold take_
  cases hh : hasAt xs i with
  | false => exact wp_cond (fun _ => wp_ret ⟨((⟨#[]⟩ : ByteArray), (2202 : Int)), rfl, rfl, h⟩) (fun h => by cases h)
  | true =>
    obtain ⟨k, rfl, hk⟩ := hasAt_iff hh
    obtain ⟨n, ch, s, buf, st, rc, tm, rfl, h2, h3, h4, h5, h6, h7, h8⟩ := h
    have hl : s.len = xs.length := h6.len (by decide)
    have hnc : n ≠ ch := by rintro rfl; rw [h2] at h3; cases h3
    have hrow : Rows (G.and H) .str s xs := (h6.rows (by decide)).le (Claim.le_and_right _ _)
    have hks : (k : Int) < (s.len : Int) := by omega
    obtain ⟨(x : ByteArray), (hx : xs[k]? = some x), hat⟩ := hrow.get (j := (k : Int)) (by omega) hks
    have h2a := fun (A : Claim) => Claim.at_le (Claim.le_and_right A _) (at_field (o := 0) (k := 0) (v := .slice s.a s.len s.cap) (S := H) h2 rfl)
    refine wp_cond (fun h => by cases h) (fun _ => wp_must (fun _ => rfl) (wp_load (r := s) (fun _ => h2a _) (wp_must (fun _ => ⟨by omega, hks, hrow.some (by omega) hks⟩) (wp_load (r := x) (fun _ => hat) (wp_must (fun _ => rfl) (wp_load (r := s) (fun _ => h2a _) ?_))))))
    have hw : IntKind.i64.wrap ((k : Int) + 1) = ((k + 1 : Nat) : Int) := by rw [wrap_i64 (by omega) (by omega)]; omega
    rw [hw]
    refine wp_call (c21 h6 hk h8) ?_
    rintro q G' H' g d ⟨m1, m2, m3⟩
    have e1 := (m3 n h4).trans h2
    have e2 : H' ch = some (.chan 32 buf false st rc tm) := (m3 ch h5).trans h3
    have hq1 : ¬ q.in n := fun h => h4 (m2 _ h)
    have hq2 : ¬ q.in ch := fun h => h5 (m2 _ h)
    refine wp_must (fun _ => rfl) (wp_store_at (n := n) (off := 0) rfl e1 (by show 0 + 1 ≤ 2; decide) (wp_must (fun _ => rfl) (wp_load (r := (some ch : Option Nat)) (fun _ => Claim.at_le (Claim.le_and_right _ _) (at_field (k := 1) (Claim.upd_same _ _ _) rfl)) ?_)))
    refine ⟨ch, 32, buf, false, st, rc, tm, rfl, (Claim.upd_ne _ _ (Ne.symm hnc)).trans e2, by omega, wp_ret ⟨(x, (0 : Int)), rfl, ?_, ?_⟩⟩
    · show (x, (0 : Int)) = _
      rw [if_pos rfl]
      show (x, (0 : Int)) = (xs.getD k ⟨#[]⟩, 0)
      rw [List.getD_eq_getElem?_getD, hx]; rfl
    · rw [if_pos rfl]
      show NetIs _ _ (cut xs k)
      refine ⟨n, ch, q, buf.extract 1 buf.size, st, rc + 1, tm, rfl, (Claim.upd_ne _ _ hnc).trans (Claim.upd_same _ _ _), Claim.upd_same _ _ _, hq1, hq2, ?_, ?_, ?_⟩
      · exact Mine.upd (Mine.upd m1 hq1) hq2
      · simp [cut, h7]; omega
      · simp [cut]; omega

def copy (xs : Texts) (i : Int) : Int × Texts := if hasAt xs i then add xs (xs.getD i.toNat ⟨#[]⟩) else (2202, xs)

theorem c13 {G H : Claim} {p : Option Addr} {xs : Texts} {i : Int} (h : NetIs H p xs) :
    CallAt cx.P 13 [.pointer p, .int .i64 i] G H (.int .i64) (fun r _ H' => r = (copy xs i).1 ∧ NetIs H' p (copy xs i).2) := by
  have hp : p.isNone = false := by obtain ⟨n, _, _, _, _, _, _, rfl, _⟩ := h; rfl
  refine call_of ok Try.func13 (T13_eq p i) (wp_cond (fun h => by rw [hp] at h; cases h) (fun _ => wp_dcall (p20 (i := i) (h.le (Claim.le_and_right _ _))) ?_))
  unfold copy
  cases hh : hasAt xs i with
  | false => exact wp_cond (fun _ => wp_ret ⟨(2202 : Int), rfl, rfl, h⟩) (fun h => by cases h)
  | true =>
    obtain ⟨k, rfl, hk⟩ := hasAt_iff hh
    have h0 := h
    obtain ⟨n, ch, s, buf, st, rc, tm, rfl, h2, h3, h4, h5, h6, h7, h8⟩ := h
    have hl : s.len = xs.length := h6.len (by decide)
    have hrow : Rows (G.and H) .str s xs := (h6.rows (by decide)).le (Claim.le_and_right _ _)
    have hks : (k : Int) < (s.len : Int) := by omega
    obtain ⟨(x : ByteArray), (hx : xs[k]? = some x), hat⟩ := hrow.get (j := (k : Int)) (by omega) hks
    have h2a := fun (A : Claim) => Claim.at_le (Claim.le_and_right A _) (at_field (o := 0) (k := 0) (v := .slice s.a s.len s.cap) (S := H) h2 rfl)
    refine wp_cond (fun h => by cases h) (fun _ => wp_must (fun _ => rfl) (wp_load (r := s) (fun _ => h2a _) (wp_must (fun _ => ⟨by omega, hks, hrow.some (by omega) hks⟩) (wp_load (r := x) (fun _ => hat) (wp_call (c19 (x := x) h0) ?_)))))
    rintro r G' H' g d ⟨rfl, hn⟩
    have ex : xs.getD (k : Int).toNat ⟨#[]⟩ = x := by
      show xs.getD k ⟨#[]⟩ = x
      rw [List.getD_eq_getElem?_getD, hx]; rfl
    refine wp_ret ⟨_, rfl, ?_, ?_⟩
    · rw [if_pos rfl, ex]
    · rw [if_pos rfl, ex]; exact hn

/-- a new row of texts -/
theorem c22 {G H : Claim} {s : Sl} {xs : Texts} (hs : Rows (G.and H) .str s xs) (hb : xs.length ≤ 32) (h0 : s.a = none → xs = []) :
    CallAt cx.P 22 [.slice s.a s.len s.cap] G H .slice (fun r _ H' => ∃ H1, Mine H1 9 .str r xs ∧ H1.le H' ∧ ∀ X : Claim, X.le H → X.le H' ∧ X.disj H1) := by
  refine call_of ok Try.func22 (T22_eq s) (wp_cond (fun hc => ?_) (fun hc => wp_lit fun n G' g d gn hn at_ => ?_))
  · have : s.a = none := by simpa using hc
    rw [h0 this]
    exact wp_ret ⟨⟨none, 0, 0⟩, rfl, Claim.none, Mine.nil _ _ _ _, Claim.none_le _, fun X hX => ⟨hX, fun _ => .inr rfl⟩⟩
  · refine wp_append' (sh := .str) (xs := []) (ys := xs) (G0 := G) (H0 := H) rfl (Mine.nil _ _ _ _) (hs.le (Claim.and_mono g)) (show 0 + xs.length ≤ maxLen by simp only [maxLen]; omega) (show (0 + xs.length) * 16 ≤ 140737488355328 by omega) (by decide) g (Claim.le_refl _) ?_ ?_
    · rintro b ⟨a, e, rfl⟩
      cases e
      exact ⟨gn, hn⟩
    · intro q H' m1 m2 m3 m4 m5 m6
      refine wp_ret ⟨q, rfl, (fun b => if b = n ∨ True then (match H b with | some _ => none | none => H' b) else none), ?_, ?_, ?_⟩
      · have m1' : Mine H' 9 .str q xs := m1
        refine m1'.keep fun b hb hne => ?_
        have := (m3 b hb).2
        simp [this]
      · intro b o e
        simp only [or_true, if_true] at e
        split at e
        · cases e
        · exact e
      · intro X hX
        refine ⟨Claim.le_trans hX m4, fun b => ?_⟩
        cases e : X b with
        | none => exact .inl rfl
        | some o => right; simp [hX b o e]

theorem c15 {G H : Claim} {p : Option Addr} {xs : Texts} (h : NetIs H p xs) :
    CallAt cx.P 15 [.pointer p] G H .slice (fun r _ H' => ∃ H1, Mine H1 9 .str r xs ∧ H1.le H' ∧ ∀ X : Claim, X.le H → X.le H' ∧ X.disj H1) := by
  have hp : p.isNone = false := by obtain ⟨n, _, _, _, _, _, _, rfl, _⟩ := h; rfl
  obtain ⟨n, ch, s, buf, st, rc, tm, rfl, h2, h3, h4, h5, h6, h7, h8⟩ := h
  refine call_of ok Try.func15 (T15_eq _) (wp_cond (fun h => by cases h) (fun _ => wp_must (fun _ => rfl) (wp_load (r := s) (fun _ => Claim.at_le (Claim.le_and_right _ _) (at_field (k := 0) h2 rfl)) (wp_call (c22 (s := s) (xs := xs) ((h6.rows (by decide)).le (Claim.le_and_right _ _)) h8 ?_) ?_))))
  · intro e
    by_cases hx : xs = []
    · exact hx
    · obtain ⟨a, e', _⟩ := (h6.rows (by decide)).at_ hx
      rw [e] at e'; cases e'
  · rintro r G' H' g d hR
    exact wp_ret ⟨r, rfl, hR⟩

theorem c15n {G H : Claim} : CallAt cx.P 15 [.pointer none] G H .slice (fun (r : Sl) _ _ => r = ⟨none, 0, 0⟩) :=
  call_of ok Try.func15 (T15_eq none) (wp_cond (fun _ => wp_ret ⟨⟨none, 0, 0⟩, rfl, rfl⟩) (fun h => by cases h))
end Go.Ev.Nets
