/- Rows that were kept. -/
import Derived.Test.YtcneiffdekbmnaacLend
namespace Go.Ev.Cache
open Go Go.Ev Go.Proofs

theorem p18 {S : Claim} {q s : Sl} {xs : List D25} (hq : Rows S S25 q (xs ++ [mark, mark])) (hcap : q.len ≤ q.cap) (hs : Rows S S25 s xs) (hb : xs.length ≤ big) :
    PureAt cx.P 18 [.slice q.a xs.length q.cap, .slice s.a s.len s.cap] S .bool true := by
  have hbig : xs.length ≤ 2000000 := hb
  have l1 : s.len = xs.length := hs.len
  have l2 : q.len = xs.length + 2 := by have : q.len = (xs ++ [mark, mark]).length := hq.len; simpa using this
  have hwl : IntKind.i64.wrap ((xs.length : Int) + 2) = ((xs.length + 2 : Nat) : Int) := by rw [wrap_i64 (by omega) (by omega)]; omega
  have hwl1 : IntKind.i64.wrap ((s.len : Int) + 1) = ((s.len + 1 : Nat) : Int) := by rw [wrap_i64 (by omega) (by omega)]; omega
  have hc0 : ¬ q.cap = 0 := by omega
  have ha : (if q.cap = 0 then q.a else Option.map (fun x => x.add (0 * 9)) q.a) = q.a := by
    rw [if_neg hc0]
    cases q.a with
    | none => rfl
    | some a => simp [Addr.add_zero]
  have hq0 := hq.and (Claim.le_refl _) (Claim.disj_none S)
  refine pure_of ok Try.func18 (T18_eq ⟨q.a, xs.length, q.cap⟩ s) ?_
  unfold T18
  dsimp only
  rw [ha, hwl, hwl1]
  have h13 := p13 (Rows.front (sh := S25) (xs := xs) hq0) (hs.and (Claim.le_refl _) (Claim.disj_none S))
  refine wp_must (fun _ => ⟨⟨by omega, by omega⟩, trivial⟩) (wp_dcall h13 ?_)
  have hself : same xs xs = true := by simp [same]
  rw [hself]
  have hj : ((s.len : Nat) : Int) < (q.len : Int) := by omega
  have hj1 : ((s.len + 1 : Nat) : Int) < (q.len : Int) := by omega
  obtain ⟨(x : D25), (hx : (xs ++ [mark, mark])[s.len]? = some x), hat⟩ := hq0.get (j := (s.len : Int)) (by omega) hj
  obtain ⟨(y : D25), (hy : (xs ++ [mark, mark])[s.len + 1]? = some y), hat2⟩ := hq0.get (j := ((s.len + 1 : Nat) : Int)) (by omega) hj1
  have hxm : x = mark := by rw [l1] at hx; simp at hx; exact hx.symm
  have hym : y = mark := by
    rw [List.getElem?_append_right (by omega), show s.len + 1 - xs.length = 1 from by omega] at hy
    exact (Option.some.inj hy).symm
  subst hxm hym
  have hsome := hq0.some (j := (s.len : Int)) (by omega) hj
  have hem : eqDen S25 mark mark = true := (eqDen_iff (s := S25) (by decide) (a := mark) (b := mark)).2 rfl
  refine wp_must (fun _ => ⟨by omega, by omega, hsome⟩) (wp_load (r := mark) (fun _ => hat) (wp_must (fun _ => ⟨by omega, by omega, hsome⟩) (wp_load (r := mark) (fun _ => hat2) (wp_ret ?_))))
  show Value.bool _ = Value.bool true
  have hem' : eqDen S25 mark (((0 : Int), (0 : Int), (0 : Int), (0 : Int), (0 : Int)), (77777 : Int), false, (0 : Int), (0 : Int)) = true := hem
  simp only [hem', cond_true]
end Go.Ev.Cache
