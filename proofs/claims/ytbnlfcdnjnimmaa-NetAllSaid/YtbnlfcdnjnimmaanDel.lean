/- slices.Delete, as the net uses it. -/
import Derived.Test.YtbnlfcdnjnimmaanNet
namespace Go.Ev.Nets
open Go Go.Ev Go.Proofs

theorem c21 {G H : Claim} {s : Sl} {xs : Texts} {i : Nat} (hm : Mine H 9 .str s xs) (hi : i < xs.length) (hb : xs.length ≤ 32) :
    CallAt cx.P 21 [.slice s.a s.len s.cap, .int .i64 (i : Int), .int .i64 ((i + 1 : Nat) : Int)] G H .slice
      (fun r _ H' => Mine H' 9 .str r (xs.take i ++ xs.drop (i + 1)) ∧ (∀ b, r.in b → s.in b) ∧ ∀ b, ¬ s.in b → H' b = H b) := by
  have hl : s.len = xs.length := hm.len (by decide)
  obtain ⟨hc, hcm⟩ := hm.capOk
  have hcap0 : ¬ s.cap = 0 := by omega
  obtain ⟨hm1, hm2⟩ := hm
  rcases hm2 with ⟨e1, _⟩ | ⟨g, cur, e1, e2, e3, e4, e5, e6⟩
  · omega
  have hm : Mine H 9 .str s xs := ⟨hm1, .inr ⟨g, cur, e1, e2, e3, e4, e5, e6⟩⟩
  refine call_of ok Try.func21 (T21_eq s i _) ?_
  refine wp_must (fun _ => ⟨⟨by omega, by omega⟩, ⟨by omega, by omega⟩, by omega, by omega⟩) (wp_cond (fun h => ?_) (fun _ => ?_))
  · have h' := beq_iff_eq.1 h
    omega
  refine wp_must (fun _ => ⟨⟨by omega, by omega⟩, trivial⟩) (wp_must (fun _ => ⟨trivial, by omega, by omega⟩) ?_)
  -- the front, and what stands behind
  have ea : (if s.cap = 0 then s.a else Option.map (fun x => x.add (0 * 1)) s.a) = s.a := by
    rw [if_neg hcap0, e1]; rfl
  have ei : (i : Int).toNat - 0 = i := by omega
  have ej : ((i + 1 : Nat) : Int).toNat = i + 1 := by omega
  have hf : Mine H 9 .str ⟨(if s.cap = 0 then s.a else Option.map (fun x => x.add (0 * 1)) s.a), (i : Int).toNat - 0, s.cap - 0⟩ (xs.take i) := by
    rw [ea, ei]
    exact hm.front (by decide) (show i ≤ xs.length by omega)
  have hr : Rows (G.and H) .str ⟨(if s.cap = ((i + 1 : Nat) : Int).toNat then s.a else Option.map (fun x => x.add (((i + 1 : Nat) : Int).toNat * 1)) s.a), s.len - ((i + 1 : Nat) : Int).toNat, s.cap - ((i + 1 : Nat) : Int).toNat⟩ (xs.drop (i + 1)) := by
    rw [ej]
    exact Rows.drop (sh := .str) ((hm.rows (by decide)).le (Claim.le_and_right _ _)) (show i + 1 ≤ xs.length by omega) (by omega)
  have lt1 : (xs.take i).length = i := by rw [List.length_take]; omega
  have lt2 : (xs.drop (i + 1)).length = xs.length - (i + 1) := List.length_drop
  refine wp_append_cap (sh := .str) rfl hf hr (show (xs.take i).length + (xs.drop (i + 1)).length ≤ maxLen by rw [lt1, lt2]; simp only [maxLen]; omega) (show ((xs.take i).length + (xs.drop (i + 1)).length) * 16 ≤ 140737488355328 by rw [lt1, lt2]; omega) (by decide) ?_
  intro q H' m1 m2 m3 m4 m5 m6 m7
  have hq : q.len = xs.length - 1 := by rw [m2]; show ((i : Int).toNat - 0) + (s.len - ((i + 1 : Nat) : Int).toNat) = _; omega
  have hroom := m6.1 (by show ((i : Int).toNat - 0) + (s.len - ((i + 1 : Nat) : Int).toNat) ≤ s.cap - 0; omega)
  obtain ⟨r1, r2⟩ := hroom
  have qa : q.a = s.a := by rw [r1]; exact ea
  have qc : q.cap = s.cap := by rw [r2]; rfl
  have hin : ∀ b, q.in b ↔ s.in b := fun b => by unfold Sl.in; rw [qa]
  have hoth : ∀ b, ¬ s.in b → H' b = H b := fun b hb => m4 b (fun h => hb ((hin b).1 h)) (fun h => hb (by
    obtain ⟨a, e, e'⟩ := h
    exact ⟨a, by rw [← ea]; exact e, e'⟩))
  refine wp_must (fun _ => ⟨⟨by omega, by omega⟩, by omega, by omega⟩) (wp_cond (fun h => ?_) (fun _ => ?_))
  · have h' := Nat.eq_of_beq_eq_true h
    omega
  · -- the last place is cleared
    have en : (s.len : Int).toNat - (q.len : Int).toNat = 1 := by omega
    have eq : (if q.cap = (q.len : Int).toNat then q.a else Option.map (fun x => x.add ((q.len : Int).toNat * 1)) q.a) = some ⟨g, q.len, none⟩ := by
      rw [if_neg (by omega), qa, e1]
      show some ((⟨g, 0, none⟩ : Addr).add ((q.len : Int).toNat * 1)) = _
      rw [Addr.add_mk]
      congr 2
      omega
    obtain ⟨k1, k2⟩ := m1
    rcases k2 with ⟨f1, f2⟩ | ⟨g', cur', f1, f2, f3, f4, f5, f6⟩
    · omega
    have hg : g' = g := by rw [qa, e1] at f1; cases f1; rfl
    subst hg
    refine wp_must (by rw [eq]; rfl) (wp_store_at (n := g') (off := q.len) (by rw [eq]; rfl) f2 (by
      rw [en]; show q.len + 1 ≤ cur'.size; rw [f5]; show q.len + 1 ≤ q.cap * 1; omega) (wp_ret ⟨q, rfl, ⟨k1, .inr ⟨g', _, f1, Claim.upd_same _ _ _, f3, f4, ?_, ?_⟩⟩, fun b hb => (hin b).1 hb, fun b hb => ?_⟩))
    · rw [en]
      simp only [List.size_toArray, List.length_append, List.length_take, List.length_drop, Array.length_toList]
      have f5' : cur'.size = q.cap * 1 := f5
      show min q.len cur'.size + 1 + (cur'.size - (q.len + 1)) = _
      omega
    · have k1' : ((xs.take i ++ xs.drop (i + 1)).flatMap Sh.str.flat).length = q.len * 1 := k1
      have f6' : cur'.toList.take (q.len * 1) = (xs.take i ++ xs.drop (i + 1)).flatMap Sh.str.flat := f6
      have f5' : cur'.size = q.cap * 1 := f5
      show List.take (q.len * 1) ((cur'.toList.take q.len ++ _) ++ _) = _
      rw [← f6', Nat.mul_one, List.append_assoc]
      exact List.take_left' (by rw [List.length_take, Array.length_toList]; omega)
    · rw [Claim.upd_ne _ _ (fun e => hb (by rw [e]; exact ⟨_, e1, rfl⟩))]
      exact hoth b hb
end Go.Ev.Nets
