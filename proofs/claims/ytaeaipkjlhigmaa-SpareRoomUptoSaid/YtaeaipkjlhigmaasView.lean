/- What only computes: what is seen, heard; loads. -/
import Derived.Test.YtaeaipkjlhigmaasPure
namespace Go.Ev.Spare
open Go Go.Ev Go.Proofs

def siteIn (x : Int) : Bool := decide (0 ≤ x) && decide (x < 3)
def serialMay (x : Int) : Bool := decide (0 ≤ x) && decide (x < 65536)
def reportMay (r : D88) : Bool := siteIn r.1 && (serialMay r.2.1 && (inB r.2.2.1 8 && inB r.2.2.2 8))
def healthMay (h : D85) : Bool := decide (0 ≤ h.2) && decide (h.2 < 3)
def healthsMay (hs : List D85) (n : Int) : Bool := ((hs.length : Int) == n) && hs.all healthMay
def zeroR : D88 := ((0 : Int), (0 : Int), (0 : Int), (0 : Int))
def seenNone (v : D90) : Bool := bif v.2 == (-1 : Int) then eqDen S88 v.1 zeroR else false
def seenMay (i : Nat) (v : D90) : Bool := seenNone v || (timeMay v.2 && (reportMay v.1 && v.1.1 == (i : Int)))
def viewMay (vs : List D90) : Bool := decide (vs.length = 3) && allFrom seenMay vs 0
def spareAt (v : D90) (now : Int) : Int × Bool × Int := if v.2 < 0 ∨ now < v.2 ∨ 10 ≤ now - v.2 then (0, false, 0) else (max 0 (v.1.2.2.2 - v.1.2.2.1), true, 0)
def spareOf (vs : List D90) (site now : Int) : Int × Bool × Int := if viewMay vs = true ∧ timeMay now = true ∧ siteIn site = true then (match vs[site.toNat]? with | some v => spareAt v now | none => (0, false, 0)) else (0, false, 1200)

theorem spareAt_no {v : D90} {now : Int} (h : v.2 < 0 ∨ now < v.2 ∨ 10 ≤ now - v.2) : spareAt v now = (0, false, 0) := if_pos h
theorem spareAt_yes {v : D90} {now : Int} (h : ¬ (v.2 < 0 ∨ now < v.2 ∨ 10 ≤ now - v.2)) : spareAt v now = (max 0 (v.1.2.2.2 - v.1.2.2.1), true, 0) := if_neg h
variable {S : Claim}

theorem p34 {x : Int} : PureAt cx.P 34 [.int .i64 x] S .bool (siteIn x) := by
  refine pure_of ok Try.func34 (T34_eq x) (wp_ret ?_)
  congr 1
  unfold siteIn
  by_cases h : 0 ≤ x <;> simp [h]
theorem p56 {x : Int} : PureAt cx.P 56 [.int .i64 x] S .bool (serialMay x) := by
  refine pure_of ok Try.func56 (T56_eq x) (wp_ret ?_)
  congr 1
  unfold serialMay
  by_cases h : 0 ≤ x <;> simp [h]
theorem p49 {r : D88} : PureAt cx.P 49 [S88.enc r] S .bool (reportMay r) := by
  refine pure_of ok Try.func49 (T49_eq r) (wp_dcall p34 (wp_dcall p56 (wp_dcall (p57 _ (n := 8) rfl (by decide)) (wp_dcall (p57 _ (n := 8) rfl (by decide)) (wp_ret ?_)))))
  unfold reportMay
  cases siteIn r.1 <;> cases serialMay r.2.1 <;> cases inB r.2.2.1 8 <;> rfl
theorem p53 {r : D88} : PureAt cx.P 53 [S88.enc r] S .bool (reportMay r) := by
  refine pure_of ok Try.func53 (T53_eq r) (wp_dcall (p62 _ (n := 8) rfl (by decide)) (wp_dcall (p62 _ (n := 8) rfl (by decide)) (wp_ret ?_)))
  unfold reportMay siteIn serialMay
  simp only [ge_iff_le]
  cases decide ((0 : Int) ≤ r.1) <;> cases decide (r.1 < 3) <;> cases decide ((0 : Int) ≤ r.2.1) <;> cases decide (r.2.1 < 65536) <;> cases inB r.2.2.1 8 <;> cases inB r.2.2.2 8 <;> rfl
theorem p55 {a : Addr} {b : Bool} (h : S.at (a.add 0) [.bool b]) : PureAt cx.P 55 [.pointer (some a)] S (.int .i64) (3 : Int) :=
  pure_of ok Try.func55 (T55_eq (some a)) (wp_must (fun _ => rfl) (wp_load (r := b) (fun _ => Claim.at_and h (Claim.le_refl _) (Claim.disj_none S)) (wp_cond (fun _ => wp_ret rfl) (fun _ => wp_ret rfl))))
theorem p48 {h : D85} : PureAt cx.P 48 [S85.enc h] S .bool (healthMay h) := by
  refine pure_of ok Try.func48 (T48_eq h) (wp_new fun n hg hh => ?_)
  have a : (S.and (Claim.none.upd n (.cells #[.bool h.1, .int .i64 h.2] 86 (0, 0)))).at ⟨n, 0, none⟩ (S85.flat h) := Claim.at_le (Claim.le_and_right _ _) (upd_at _ _ _ _ _)
  have a0 := at_sub a [] (w := [.bool h.1]) (z := [.int .i64 h.2]) rfl
  have a1 := at_sub a [.bool h.1] (w := [.int .i64 h.2]) (z := []) rfl
  refine wp_load (r := h.2) (fun _ => a1) (wp_load (r := h.2) (fun _ => a1) (wp_dcall (p55 a0) (wp_ret ?_)))
  congr 1
  show (bif decide (h.2 ≥ 0) then decide (h.2 < 3) else false) = healthMay h
  unfold healthMay
  by_cases h' : 0 ≤ h.2 <;> simp [h']
theorem p52 {h : D85} : PureAt cx.P 52 [S85.enc h] S .bool (healthMay h) := by
  have e : Value.bool (bif decide (h.2 ≥ (0 : Int)) then decide (h.2 < (3 : Int)) else false) = Sh.bool.enc (healthMay h) := by
    show Value.bool _ = Value.bool _
    congr 1
    unfold healthMay
    by_cases h' : 0 ≤ h.2 <;> simp [h']
  exact pure_of ok Try.func52 (T52_eq h) (wp_cond (fun _ => wp_ret e) (fun _ => wp_ret e))

theorem hs_end {s : Sl} {hs : List D85} {n : Int} (hl : s.len = hs.length) (hall : ∀ j, j < s.len → ∀ x, hs[j]? = some x → healthMay x = true) : Value.bool ((s.len : Int) == n) = Sh.bool.enc (healthsMay hs n) := by
  unfold healthsMay
  rw [all_true hl hall, Bool.and_true, hl]
  rfl
theorem hs_fail {hs : List D85} {n : Int} {i : Nat} {x : D85} (hx : hs[i]? = some x) (h : healthMay x = false) : Value.bool false = Sh.bool.enc (healthsMay hs n) := by
  unfold healthsMay
  rw [all_false hx h, Bool.and_false]
  rfl
theorem p35 {s : Sl} {hs : List D85} {n : Int} (hr : Rows S S85 s hs) : PureAt cx.P 35 [.slice s.a s.len s.cap, .int .i64 n] S .bool (healthsMay hs n) := by
  have hl : s.len = hs.length := hr.len
  refine pure_of ok Try.func35 (T35_eq s n) (wp_each hr.small (fun i => ∀ x, hs[i]? = some x → healthMay x = true) ?_ ?_)
  · intro i G' H' J hle hd hc hbef hJ
    have hrow := hr.and hle hd
    obtain ⟨(x : D85), (hx : hs[i]? = some x), hat⟩ := hrow.get (j := (i : Int)) (by omega) hc
    refine wp_must (fun _ => ⟨by omega, hc, hrow.some (by omega) hc⟩) (wp_load (r := x) (fun _ => hat) (wp_dcall (p48 (h := x)) (wp_cond (fun hq => wp_pop (wp_ret (hs_fail hx (by simpa using hq)))) (fun hq => wp_again (hJ (fun y hy => ?_) _ _)))))
    have hxy : x = y := by rw [hx] at hy; exact Option.some.inj hy
    subst hxy
    simpa using hq
  · intro G' H' J hle hd hall
    exact wp_pop (wp_ret (hs_end hl hall))
theorem p40 {s : Sl} {hs : List D85} {n : Int} (hr : Rows S S85 s hs) : PureAt cx.P 40 [.slice s.a s.len s.cap, .int .i64 n] S .bool (healthsMay hs n) := by
  have hl : s.len = hs.length := hr.len
  refine pure_of ok Try.func40 (T40_eq s n) (wp_each hr.small (fun i => ∀ x, hs[i]? = some x → healthMay x = true) ?_ ?_)
  · intro i G' H' J hle hd hc hbef hJ
    have hrow := hr.and hle hd
    obtain ⟨(x : D85), (hx : hs[i]? = some x), hat⟩ := hrow.get (j := (i : Int)) (by omega) hc
    refine wp_must (fun _ => ⟨by omega, hc, hrow.some (by omega) hc⟩) (wp_load (r := x) (fun _ => hat) (wp_dcall (p52 (h := x)) (wp_cond (fun hq => wp_pop (wp_ret (hs_fail hx (by simpa using hq)))) (fun hq => wp_again (hJ (fun y hy => ?_) _ _)))))
    have hxy : x = y := by rw [hx] at hy; exact Option.some.inj hy
    subst hxy
    simpa using hq
  · intro G' H' J hle hd hall
    exact wp_pop (wp_ret (hs_end hl hall))

theorem view_fail {vs : List D90} {i : Nat} {x : D90} (hx : vs[i]? = some x) (h : seenMay i x = false) : Value.bool false = Sh.bool.enc (viewMay vs) := by
  unfold viewMay
  rw [allFrom_false (n := 0) hx (by rw [Nat.zero_add]; exact h), Bool.and_false]
  rfl
theorem view_end {s : Sl} {vs : List D90} (hl : s.len = vs.length) (hall : ∀ j, j < s.len → ∀ x, vs[j]? = some x → seenMay j x = true) : Value.bool ((s.len : Int) == (3 : Int)) = Sh.bool.enc (viewMay vs) := by
  unfold viewMay
  rw [allFrom_true (n := 0) (fun j hj x hx => by rw [Nat.zero_add]; exact hall j (by omega) x hx), Bool.and_true, hl]
  show Value.bool _ = Value.bool _
  congr 1
  rw [Bool.eq_iff_iff]
  simp
  omega
theorem p36 {s : Sl} {vs : List D90} (hr : Rows S S90 s vs) : PureAt cx.P 36 [.slice s.a s.len s.cap] S .bool (viewMay vs) := by
  have hl : s.len = vs.length := hr.len
  refine pure_of ok Try.func36 (T36_eq s) (wp_each hr.small (fun i => ∀ x, vs[i]? = some x → seenMay i x = true) ?_ ?_)
  · intro i G' H' J hle hd hc hbef hJ
    have hrow := hr.and hle hd
    obtain ⟨(x : D90), (hx : vs[i]? = some x), hat⟩ := hrow.get (j := (i : Int)) (by omega) hc
    refine wp_must (fun _ => ⟨by omega, hc, hrow.some (by omega) hc⟩) (wp_load (r := x) (fun _ => hat) (wp_dcall (p24 _) (wp_dcall (p49 (r := x.1)) ?_)))
    have e : seenMay i x = !(bif !seenNone x then bif bif !timeMay x.2 then true else !reportMay x.1 then true else x.1.1 != (i : Int) else false) := by
      unfold seenMay
      cases seenNone x <;> cases timeMay x.2 <;> cases reportMay x.1 <;> simp [bne]
    refine wp_cond (fun hq => wp_pop (wp_ret (view_fail hx ?_))) (fun hq => wp_again (hJ (fun y hy => ?_) _ _))
    · have hq' : (bif !seenNone x then bif bif !timeMay x.2 then true else !reportMay x.1 then true else x.1.1 != (i : Int) else false) = true := hq
      rw [e, hq']; rfl
    · have hq' : (bif !seenNone x then bif bif !timeMay x.2 then true else !reportMay x.1 then true else x.1.1 != (i : Int) else false) = false := hq
      have hxy : x = y := by rw [hx] at hy; exact Option.some.inj hy
      subst hxy
      rw [e, hq']; rfl
  · intro G' H' J hle hd hall
    exact wp_pop (wp_ret (view_end hl hall))
theorem p41 {s : Sl} {vs : List D90} (hr : Rows S S90 s vs) : PureAt cx.P 41 [.slice s.a s.len s.cap] S .bool (viewMay vs) := by
  have hl : s.len = vs.length := hr.len
  refine pure_of ok Try.func41 (T41_eq s) (wp_each hr.small (fun i => ∀ x, vs[i]? = some x → seenMay i x = true) ?_ ?_)
  · intro i G' H' J hle hd hc hbef hJ
    have hrow := hr.and hle hd
    obtain ⟨(x : D90), (hx : vs[i]? = some x), hat⟩ := hrow.get (j := (i : Int)) (by omega) hc
    refine wp_must (fun _ => ⟨by omega, hc, hrow.some (by omega) hc⟩) (wp_load (r := x) (fun _ => hat) (wp_dcall (p53 (r := x.1)) ?_))
    have e : seenMay i x = !(bif !seenNone x then bif bif bif decide (x.2 < (0 : Int)) then true else decide (x.2 > (1048576 : Int)) then true else !reportMay x.1 then true else x.1.1 != (i : Int) else false) := by
      have e0 : timeMay x.2 = !(bif decide (x.2 < (0 : Int)) then true else decide (x.2 > (1048576 : Int))) := by
        unfold timeMay
        by_cases h1 : x.2 < 0
        · simp [h1, show ¬ (0 : Int) ≤ x.2 from by omega]
        · by_cases h2 : x.2 > 1048576
          · simp [h1, h2, show ¬ x.2 ≤ (1048576 : Int) from by omega]
          · simp [h1, h2]; omega
      unfold seenMay
      rw [e0]
      cases seenNone x <;> cases (bif decide (x.2 < (0 : Int)) then true else decide (x.2 > (1048576 : Int))) <;> cases reportMay x.1 <;> simp [bne]
    refine wp_cond (fun hq => wp_pop (wp_ret (view_fail hx ?_))) (fun hq => wp_again (hJ (fun y hy => ?_) _ _))
    · have hq' : (bif !seenNone x then bif bif bif decide (x.2 < (0 : Int)) then true else decide (x.2 > (1048576 : Int)) then true else !reportMay x.1 then true else x.1.1 != (i : Int) else false) = true := hq
      rw [e, hq']; rfl
    · have hq' : (bif !seenNone x then bif bif bif decide (x.2 < (0 : Int)) then true else decide (x.2 > (1048576 : Int)) then true else !reportMay x.1 then true else x.1.1 != (i : Int) else false) = false := hq
      have hxy : x = y := by rw [hx] at hy; exact Option.some.inj hy
      subst hxy
      rw [e, hq']; rfl
  · intro G' H' J hle hd hall
    exact wp_pop (wp_ret (view_end hl hall))

theorem allFrom_get {α : Type} {p : Nat → α → Bool} : ∀ {xs : List α} {n i : Nat} {x : α}, allFrom p xs n = true → xs[i]? = some x → p (n + i) x = true
  | [], _, _, _, _, h => by simp at h
  | y :: xs, n, 0, x, h, hx => by
    have : y = x := by simpa using hx
    subst this
    rw [allFrom_cons, Bool.and_eq_true] at h
    exact h.1
  | y :: xs, n, i + 1, x, h, hx => by
    rw [allFrom_cons, Bool.and_eq_true] at h
    have := allFrom_get (n := n + 1) (i := i) h.2 (by simpa using hx)
    rwa [show n + 1 + i = n + (i + 1) from by omega] at this

/-- what a view may hold -/
theorem view_range {vs : List D90} (h : viewMay vs = true) {i : Nat} {x : D90} (hx : vs[i]? = some x) : -1 ≤ x.2 ∧ x.2 ≤ 1048576 ∧ 0 ≤ x.1.2.2.1 ∧ x.1.2.2.1 < 256 ∧ 0 ≤ x.1.2.2.2 ∧ x.1.2.2.2 < 256 := by
  unfold viewMay at h
  rw [Bool.and_eq_true] at h
  have := allFrom_get h.2 hx
  unfold seenMay at this
  rw [Bool.or_eq_true] at this
  rcases this with h | h
  · unfold seenNone at h
    by_cases hv : x.2 = -1
    · have h2 : (x.2 == (-1 : Int)) = true := by simp [hv]
      rw [h2, cond_true] at h
      have e : x.1 = zeroR := (eqDen_iff (s := S88) (by decide)).1 h
      rw [e]
      unfold zeroR
      dsimp only
      omega
    · have h2 : (x.2 == (-1 : Int)) = false := by simp [hv]
      rw [h2] at h
      cases h
  · unfold timeMay reportMay inB at h
    simp only [Bool.and_eq_true, decide_eq_true_eq] at h
    have e : (2 : Int) ^ 8 = 256 := by decide
    omega
theorem view_len {vs : List D90} (h : viewMay vs = true) : vs.length = 3 := by
  unfold viewMay at h
  rw [Bool.and_eq_true, decide_eq_true_eq] at h
  exact h.1

theorem p25 {s : Sl} {vs : List D90} {i now : Int} (hr : Rows S S90 s vs) : PureAt cx.P 25 [.slice s.a s.len s.cap, .int .i64 i, .int .i64 now] S (.tup (.pair (.int .i64) (.pair .bool (.int .i64)))) (spareOf vs i now) := by
  have hl : s.len = vs.length := hr.len
  have hrow := hr.and (Claim.le_refl _) (Claim.disj_none S)
  refine pure_of ok Try.func25 (T25_eq s i now) (wp_dcall (p36 hrow) (wp_dcall (p24 _) (wp_dcall p34 (wp_cond (fun hc => wp_ret ?_) (fun hc => ?_)))))
  · have : ¬ (viewMay vs = true ∧ timeMay now = true ∧ siteIn i = true) := by
      rintro ⟨h1, h2, h3⟩
      simp [h1, h2, h3] at hc
    unfold spareOf
    rw [if_neg this]
    rfl
  · have h3 : viewMay vs = true ∧ timeMay now = true ∧ siteIn i = true := by
      revert hc
      cases viewMay vs <;> cases timeMay now <;> cases siteIn i <;> simp
    have hlen := view_len h3.1
    have hi := h3.2.2
    unfold siteIn at hi
    simp only [Bool.and_eq_true, decide_eq_true_eq] at hi
    have hlt : i < (s.len : Int) := by omega
    obtain ⟨(x : D90), (hx : vs[i.toNat]? = some x), hat⟩ := hrow.get hi.1 hlt
    have hn := h3.2.1
    unfold timeMay at hn
    simp only [Bool.and_eq_true, decide_eq_true_eq] at hn
    have hv := view_range h3.1 hx
    refine wp_must (fun _ => ⟨hi.1, hlt, hrow.some hi.1 hlt⟩) (wp_load (r := x) (fun _ => hat) ?_)
    have he : spareOf vs i now = spareAt x now := by unfold spareOf; rw [if_pos h3, hx]
    rw [he, wrap_i64 (x := now - x.2) (by omega) (by omega)]
    refine wp_cond (fun hq => wp_ret ?_) (fun hq => wp_ret ?_)
    · have hq' : x.2 < 0 ∨ now < x.2 ∨ 10 ≤ now - x.2 := by
        by_cases e1 : x.2 = -1
        · omega
        · by_cases e2 : now - x.2 < 0
          · omega
          · simp [e1, e2] at hq
            omega
      rw [spareAt_no hq']
      rfl
    · have hq' : ¬ (x.2 < 0 ∨ now < x.2 ∨ 10 ≤ now - x.2) := by
        by_cases e1 : x.2 = -1
        · simp [e1] at hq
        · by_cases e2 : now - x.2 < 0
          · simp [e2] at hq
          · simp [e1, e2] at hq
            omega
      rw [spareAt_yes hq', wrap_i64 (by omega) (by omega), Int.max_comm]
      rfl
theorem p27 {s : Sl} {vs : List D90} {i now : Int} (hr : Rows S S90 s vs) : PureAt cx.P 27 [.slice s.a s.len s.cap, .int .i64 i, .int .i64 now] S (.tup (.pair (.int .i64) (.pair .bool (.int .i64)))) (spareOf vs i now) := by
  have hl : s.len = vs.length := hr.len
  have hrow := hr.and (Claim.le_refl _) (Claim.disj_none S)
  refine pure_of ok Try.func27 (T27_eq s i now) (wp_dcall (p41 hrow) (wp_dcall (p26 _) (wp_cond (fun hc => wp_ret ?_) (fun hc => ?_))))
  · have : ¬ (viewMay vs = true ∧ timeMay now = true ∧ siteIn i = true) := by
      rintro ⟨h1, h2, h3⟩
      unfold siteIn at h3
      simp only [Bool.and_eq_true, decide_eq_true_eq] at h3
      simp [h1, h2, show ¬ i < 0 from by omega, show ¬ i ≥ 3 from by omega] at hc
    unfold spareOf
    rw [if_neg this]
    rfl
  · have h3 : viewMay vs = true ∧ timeMay now = true ∧ siteIn i = true := by
      unfold siteIn
      revert hc
      cases viewMay vs <;> cases timeMay now <;> simp
    have hlen := view_len h3.1
    have hi := h3.2.2
    unfold siteIn at hi
    simp only [Bool.and_eq_true, decide_eq_true_eq] at hi
    have hlt : i < (s.len : Int) := by omega
    obtain ⟨(x : D90), (hx : vs[i.toNat]? = some x), hat⟩ := hrow.get hi.1 hlt
    have hn := h3.2.1
    unfold timeMay at hn
    simp only [Bool.and_eq_true, decide_eq_true_eq] at hn
    have hv := view_range h3.1 hx
    refine wp_must (fun _ => ⟨hi.1, hlt, hrow.some hi.1 hlt⟩) (wp_load (r := x) (fun _ => hat) ?_)
    have he : spareOf vs i now = spareAt x now := by unfold spareOf; rw [if_pos h3, hx]
    rw [he, wrap_i64 (x := now - x.2) (by omega) (by omega)]
    refine wp_cond (fun hq => wp_ret ?_) (fun hq => wp_ret ?_)
    · have hq' : x.2 < 0 ∨ now < x.2 ∨ 10 ≤ now - x.2 := by
        by_cases e1 : x.2 < 0
        · omega
        · by_cases e2 : now < x.2
          · omega
          · simp [e1, e2] at hq
            omega
      rw [spareAt_no hq']
      rfl
    · have hq' : ¬ (x.2 < 0 ∨ now < x.2 ∨ 10 ≤ now - x.2) := by
        by_cases e1 : x.2 < 0
        · simp [e1] at hq
        · by_cases e2 : now < x.2
          · simp [e1, e2] at hq
          · simp [e1, e2] at hq
            omega
      rw [spareAt_yes hq', wrap_i64 (by omega) (by omega)]
      rfl
end Go.Ev.Spare
