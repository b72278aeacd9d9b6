/- The net's functions, and the document's: each with what it does to the packets in their row. -/
import Derived.Test.YtbnlfcdnjnimmaanTrees
import Derived.Test.YtbnlfcdnjnimmaaEvS
namespace Go.Ev.Nets
open Go Go.Ev Go.Proofs

abbrev Texts := List ByteArray

/-- a net, in memory -/
def NetIs (H : Claim) (p : Option Addr) (xs : Texts) : Prop :=
  ∃ (n ch : Nat) (s : Sl) (buf : Array Value) (st rc : Nat) (tm : Bool), p = some ⟨n, 0, none⟩ ∧ H n = some (.cells #[.slice s.a s.len s.cap, .chan (some ch)] 51 (0, 0)) ∧ H ch = some (.chan 32 buf false st rc tm) ∧
    ¬ s.in n ∧ ¬ s.in ch ∧ Mine H 9 .str s xs ∧ buf.size = xs.length ∧ xs.length ≤ 32

theorem Mine.le' {H H' : Claim} {s : Sl} {xs : Texts} (h : Mine H 9 .str s xs) (k : H.le H') : Mine H' 9 .str s xs := h.le k
theorem NetIs.le {H H' : Claim} {p : Option Addr} {xs : Texts} (h : NetIs H p xs) (k : H.le H') : NetIs H' p xs := by
  obtain ⟨n, ch, s, buf, st, rc, tm, h1, h2, h3, h4, h5, h6, h7, h8⟩ := h
  exact ⟨n, ch, s, buf, st, rc, tm, h1, k _ _ h2, k _ _ h3, h4, h5, h6.le k, h7, h8⟩

theorem c7 {G : Claim} : CallAt cx.P 7 [] G Claim.none .ptr (fun r _ H' => NetIs H' r []) := by
  refine call_of ok Try.func7 T7_eq (wp_newObj rfl fun n0 g0 h0 => wp_new fun n1 g1 h1 => wp_ret ⟨some ⟨n1, 0, none⟩, rfl, ?_⟩)
  have hne : n0 ≠ n1 := by rintro rfl; rw [Claim.upd_same] at h1; cases h1
  exact ⟨n1, n0, ⟨none, 0, 0⟩, #[], 0, 0, false, rfl, Claim.upd_same _ _ _, (Claim.upd_ne _ _ hne).trans (Claim.upd_same _ _ _), nil_in, nil_in, Mine.nil _ _ _ _, rfl, by simp⟩

theorem p8 {S : Claim} {x : Int} : PureAt cx.P 8 [.int .i64 x] S (.int .i64) x := pure_of ok Try.func8 (T8_eq x) (wp_ret rfl)

def add (xs : Texts) (x : ByteArray) : Int × Texts := if xs.length < 32 then (0, xs ++ [x]) else (2201, xs)

theorem c19 {G H : Claim} {p : Option Addr} {xs : Texts} {x : ByteArray} (h : NetIs H p xs) :
    CallAt cx.P 19 [.pointer p, .string x] G H (.int .i64) (fun r _ H' => r = (add xs x).1 ∧ NetIs H' p (add xs x).2) := by
  obtain ⟨n, ch, s, buf, st, rc, tm, rfl, h2, h3, h4, h5, h6, h7, h8⟩ := h
  have hl : s.len = xs.length := h6.len (by decide)
  have hnc : n ≠ ch := by rintro rfl; rw [h2] at h3; cases h3
  refine call_of ok Try.func19 (T19_eq _ x) (wp_must (fun _ => rfl) (wp_load (r := (some ch : Option Nat)) (fun _ => Claim.at_le (Claim.le_and_right _ _) (at_field (k := 1) h2 rfl)) ⟨ch, 32, buf, st, rc, tm, rfl, h3, fun hroom => ?_, fun hroom => ?_⟩))
  · have hlt : xs.length < 32 := by omega
    refine wp_cond (fun _ => ?_) (fun h => by simp at h)
    have k2 : (H.upd ch (.chan 32 (buf.push (.agg #[])) false (st + 1) rc tm)) n = some (.cells #[.slice s.a s.len s.cap, .chan (some ch)] 51 (0, 0)) := (Claim.upd_ne _ _ hnc).trans h2
    have k6 : Mine (H.upd ch (.chan 32 (buf.push (.agg #[])) false (st + 1) rc tm)) 9 .str s xs := h6.upd h5
    refine wp_must (fun _ => rfl) (wp_load (r := s) (fun _ => Claim.at_le (Claim.le_and_right _ _) (at_field (k := 0) k2 rfl)) ?_)
    refine wp_push (sh := .str) (x := x) (xs := xs) rfl rfl k6 (by show xs.length + 1 ≤ maxLen; simp only [maxLen]; omega) (by show (xs.length + 1) * 16 ≤ 140737488355328; omega) (by decide) (Claim.none_le _) (Claim.none_le _) (New.any _) ?_
    intro G' q H' g m1 m2 m3 m4 m5 m6
    obtain ⟨e1, e2⟩ := m5 n h4 (by rw [k2]; simp)
    obtain ⟨e3, e4⟩ := m5 ch h5 (by rw [Claim.upd_same]; simp)
    refine wp_must (fun _ => rfl) (wp_store_at (n := n) (off := 0) rfl (e1.trans k2) (by show 0 + 1 ≤ 2; decide) (wp_ret ⟨(0 : Int), rfl, ?_, ?_⟩))
    · unfold add; rw [if_pos hlt]
    · unfold add
      rw [if_pos hlt]
      refine ⟨n, ch, q, buf.push (.agg #[]), st + 1, rc, tm, rfl, Claim.upd_same _ _ _, (Claim.upd_ne _ _ (Ne.symm hnc)).trans (e3.trans (Claim.upd_same _ _ _)), e2, e4, Mine.upd m1 e2, ?_, ?_⟩
      · simp [h7]
      · simp; omega
  · have hge : ¬ xs.length < 32 := by omega
    refine wp_cond (fun h => by simp at h) (fun _ => wp_ret ⟨(2201 : Int), rfl, ?_, ?_⟩)
    · unfold add; rw [if_neg hge]
    · unfold add; rw [if_neg hge]
      exact ⟨n, ch, s, buf, st, rc, tm, rfl, h2, h3, h4, h5, h6, h7, h8⟩

def bad (x : ByteArray) : Bool := decide (x.size = 0) || decide (512 < x.size)
def send (xs : Texts) (x : ByteArray) : Int × Texts := if bad x then (2200, xs) else add xs x

theorem c9 {G H : Claim} {p : Option Addr} {xs : Texts} {x : ByteArray} (h : NetIs H p xs) :
    CallAt cx.P 9 [.pointer p, .string x] G H (.int .i64) (fun r _ H' => r = (send xs x).1 ∧ NetIs H' p (send xs x).2) := by
  have hp : p.isNone = false := by obtain ⟨n, _, _, _, _, _, _, rfl, _⟩ := h; rfl
  have hb : (bif x.toList == (⟨#[]⟩ : ByteArray).toList then true else decide ((x.size : Int) > 512)) = bad x := by
    rw [toList_beq, beq_nil]
    unfold bad
    cases decide (x.size = 0) <;> simp
    omega
  refine call_of ok Try.func9 (T9_eq p x) (wp_cond (fun h => by rw [hp] at h; cases h) (fun _ => wp_cond (fun hc => ?_) (fun hc => ?_)))
  · rw [hb] at hc
    exact wp_ret ⟨(2200 : Int), rfl, by unfold send; rw [if_pos hc], by unfold send; rw [if_pos hc]; exact h⟩
  · rw [hb] at hc
    refine wp_call (c19 h) ?_
    rintro r G' H' g d ⟨rfl, hn⟩
    exact wp_ret ⟨_, rfl, by unfold send; rw [if_neg (by simp [hc])], by unfold send; rw [if_neg (by simp [hc])]; exact hn⟩

/-- a pointer that leads nowhere -/
theorem c9n {G H : Claim} {x : ByteArray} : CallAt cx.P 9 [.pointer none, .string x] G H (.int .i64) (fun (r : Int) _ _ => r = 1) :=
  call_of ok Try.func9 (T9_eq none x) (wp_cond (fun _ => wp_ret ⟨(1 : Int), rfl, rfl⟩) (fun h => by cases h))

def hasAt (xs : Texts) (i : Int) : Bool := decide (0 ≤ i) && decide (i < (xs.length : Int))

theorem p20 {S : Claim} {p : Option Addr} {xs : Texts} {i : Int} (h : NetIs S p xs) : PureAt cx.P 20 [.pointer p, .int .i64 i] S .bool (hasAt xs i) := by
  obtain ⟨n, ch, s, buf, st, rc, tm, rfl, h2, h3, h4, h5, h6, h7, h8⟩ := h
  have hl : s.len = xs.length := h6.len (by decide)
  refine pure_of ok Try.func20 (T20_eq _ i) (wp_must (fun _ => rfl) (wp_load (r := s) (fun _ => by rw [Claim.and_none]; exact at_field (k := 0) h2 rfl) (wp_ret ?_)))
  unfold hasAt
  show Value.bool _ = Value.bool _
  by_cases h : 0 ≤ i <;> simp [h, hl]
end Go.Ev.Nets
