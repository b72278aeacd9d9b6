/- The node that comes in, opened. -/
import Derived.Test.YtaeaipkjlhigmaasLaw
namespace Go.Ev.Spare
open Go Go.Ev Go.Proofs

def KPair (n : Nat) (P Q : Nat → Prop) : Prop := ∃ a b, a + b ≤ n ∧ P a ∧ Q b
def KI (x : Int) (n : Nat) : Prop := (Lit.int .i64 x).wf = true ∧ 1 ≤ n
def KB (n : Nat) : Prop := 1 ≤ n
def KSl (S : Claim) (sh : Sh) (K : sh.den → Nat → Prop) (y : Sl) (n : Nat) : Prop := y.len ≤ y.cap ∧ y.cap ≤ maxLen ∧ ∃ xs : List (sh.den × Nat), Rows S sh y (xs.map (·.1)) ∧ (∀ x ∈ xs, 1 ≤ x.2 ∧ K x.1 x.2) ∧ (xs.map (·.2)).sum + 1 ≤ n
def KBack (x : D82) (n : Nat) : Prop := KPair n (KI x.1) KB
def KSite (S : Claim) (x : D52) (n : Nat) : Prop := KPair n (KI x.1) fun n => KPair n KB fun n => KPair n (KI x.2.2.1) (KSl S S82 KBack x.2.2.2)
def KConf (S : Claim) (x : D23) (n : Nat) : Prop := KPair n (KI x.1) (KSl S S52 (KSite S) x.2)
def KHealth (x : D85) (n : Nat) : Prop := KPair n KB (KI x.2)
def KReport (x : D88) (n : Nat) : Prop := KPair n (KI x.1) fun n => KPair n (KI x.2.1) fun n => KPair n (KI x.2.2.1) (KI x.2.2.2)
def KSeen (x : D90) (n : Nat) : Prop := KPair n (KReport x.1) (KI x.2)
def KFlow (x : D47) (n : Nat) : Prop := KPair n (KI x.1) fun n => KPair n (KI x.2.1) fun n => KPair n (KI x.2.2.1) fun n => KPair n (KI x.2.2.2.1) (KI x.2.2.2.2)
def KEntry (x : D49) (n : Nat) : Prop := KPair n (KFlow x.1) fun n => KPair n (KI x.2.1) fun n => KPair n KB fun n => KPair n (KI x.2.2.2.1) (KI x.2.2.2.2)
def KNodeN (S : Claim) (x : D28) (n : Nat) : Prop :=
  KPair n (KI x.1) fun n => KPair n (KConf S x.2.1) fun n => KPair n (KSl S S85 KHealth x.2.2.1) fun n => KPair n (KSl S S90 KSeen x.2.2.2.1) fun n => KPair n (KSl S S49 KEntry x.2.2.2.2.1) (KI x.2.2.2.2.2)

theorem okT29 : okT cx 12 29 = true := by kernel_rfl
def OpenT (cx : Cx) (S : Claim) (d : Nat) (t : TypeId) (v : Value) (n : Nat) : Prop := ∃ y : (cx.shape d t).den, v = (cx.shape d t).enc y ∧ Known cx S d t y n
theorem known_openT {D : Type} {enc : TypeId × Value → D} {cx : Cx} {w : World} {B : DataW D → Nat} (hB : Bulk B) {t : TypeId} {r : Reach} {b0 : Nat} {v : Value} {d : DataW D} {ps : List MemPlace} (hok : okT cx 12 t = true) (hval : Value.okWide cx.P w r b0 t v)
    (h : DataW.Trod enc cx.P w 0 (fun _ => true) true t v d ps) : OpenT cx (Claim.of w) 12 t v (B d) := known_arg hB hok hval h
theorem open29 {S : Claim} {v : Value} {n : Nat} : OpenT cx S 12 29 v n = (∃ x : D28, v = S28.enc x ∧ KNodeN S x n) := by kernel_rfl

theorem len_sum {α : Type} : ∀ {xs : List (α × Nat)}, (∀ x ∈ xs, 1 ≤ x.2) → xs.length ≤ (xs.map (·.2)).sum
  | [], _ => Nat.zero_le _
  | x :: xs, h => by
    have h0 := h x (List.mem_cons_self ..)
    have h1 := len_sum (xs := xs) fun y hy => h y (List.mem_cons_of_mem _ hy)
    rw [List.map_cons, List.sum_cons, List.length_cons]
    omega
theorem KSl.row {S : Claim} {sh : Sh} {K : sh.den → Nat → Prop} {y : Sl} {n : Nat} (h : KSl S sh K y n) : ∃ xs : List sh.den, Rows S sh y xs ∧ xs.length ≤ n := by
  obtain ⟨_, _, xs, h1, h2, h3⟩ := h
  refine ⟨xs.map (·.1), h1, ?_⟩
  have := len_sum (xs := xs) fun x hx => (h2 x hx).1
  rw [List.length_map]
  omega

theorem sites_of {S : Claim} {m : Nat} : ∀ (xs : List (D52 × Nat)), (∀ x ∈ xs, KSite S x.1 x.2) → (xs.map (·.2)).sum ≤ m → ∃ cs : List Site, cs.map (·.1) = xs.map (·.1) ∧ ∀ p ∈ cs, Rows S S82 p.1.2.2.2 p.2 ∧ p.2.length ≤ m
  | [], _, _ => ⟨[], rfl, fun p hp => by cases hp⟩
  | x :: xs, h, hm => by
    rw [List.map_cons, List.sum_cons] at hm
    obtain ⟨cs, h1, h2⟩ := sites_of (m := m) xs (fun y hy => h y (List.mem_cons_of_mem _ hy)) (by omega)
    obtain ⟨a, b, e, _, c, d, e2, _, f, g, e3, _, hk⟩ := h x (List.mem_cons_self ..)
    obtain ⟨bs, hb, hl⟩ := KSl.row (n := g) hk
    refine ⟨(x.1, bs) :: cs, by rw [List.map_cons, List.map_cons, h1], fun p hp => ?_⟩
    rcases List.mem_cons.1 hp with rfl | hp
    · exact ⟨hb, by show bs.length ≤ m; omega⟩
    · exact h2 p hp

theorem open_node {S : Claim} {v : Value} {n : Nat} (h : OpenT cx S 12 29 v n) (hn : n ≤ 1048576) :
    ∃ x : D28, v = S28.enc x ∧ ∃ cs hs vs es, KNode S x cs hs vs es ∧ Few cs hs vs es := by
  obtain ⟨x, hv, a1, b1, s1, _, a2, b2, s2, hc, a3, b3, s3, hh, a4, b4, s4, hs, a5, b5, s5, he, _⟩ := open29.mp h
  obtain ⟨c1, c2, s6, _, _, _, xs, r1, r2, r3⟩ := hc
  obtain ⟨hs', hr, hl⟩ := KSl.row (n := a3) hh
  obtain ⟨vs, vr, vl⟩ := KSl.row (n := a4) hs
  obtain ⟨es, er, el⟩ := KSl.row (n := a5) he
  have hxl := len_sum (xs := xs) fun x hx => (r2 x hx).1
  obtain ⟨cs, e1, e2⟩ := sites_of (S := S) (m := 1048576) xs (fun y hy => (r2 y hy).2) (show (xs.map (·.2)).sum ≤ 1048576 from by have r3' : (xs.map (·.2)).sum + 1 ≤ c2 := r3; omega)
  have hcl : cs.length = xs.length := by
    have h := congrArg List.length e1
    have h2 : cs.length = (cs.map (·.1)).length := (List.length_map _).symm
    exact h2.trans (h.trans (List.length_map _))
  have r3' : (xs.map (·.2)).sum + 1 ≤ c2 := r3
  have hbig : big = 2000000 := rfl
  refine ⟨x, hv, cs, hs', vs, es, ⟨⟨?_, fun p hp => (e2 p hp).1⟩, hr, vr, er⟩, ⟨?_, fun p hp => ?_, ?_, ?_, ?_⟩⟩
  · exact cast (congrArg (fun l : List S52.den => Rows S S52 x.2.1.2 l) e1.symm) r1
  · rw [hbig, hcl]
    have hxl' : xs.length ≤ (xs.map (·.2)).sum := hxl
    omega
  · have := (e2 p hp).2
    rw [hbig]; omega
  · show hs'.length ≤ big
    have hl' : hs'.length ≤ a3 := hl
    rw [hbig]; omega
  · show vs.length ≤ big
    have vl' : vs.length ≤ a4 := vl
    rw [hbig]; omega
  · show es.length ≤ big
    have el' : es.length ≤ a5 := el
    rw [hbig]; omega
end Go.Ev.Spare
