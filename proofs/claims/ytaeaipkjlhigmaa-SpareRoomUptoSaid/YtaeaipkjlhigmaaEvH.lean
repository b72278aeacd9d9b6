/- The framework, part H: slice expressions, calls; all operations together. -/
import Derived.Test.YtaeaipkjlhigmaaEvG
namespace Go.Ev

theorem run_callFunc {P : Program} {f : FuncId} (hg : GoodFn P f) (args : Array Value) (w : World) : (callFunc f args).run P w = .ok (.enter f args) w := by
  obtain ⟨fn, hf, hb, hn⟩ := hg
  have hb' : fn.body.isNone = false := by cases h : fn.body <;> simp_all
  unfold callFunc
  simp only [Sem.run_bind, run_program, Result.andThen_ok, hf, hn, hb']
  rfl

section
variable {cx : Cx} {fx : Fx} {c0 : World} {G0 H0 : Claim} {B : Nat → Nat} {σ : St} {G H : Claim} {a : Act} {c : World} {g : List (Nat × Bool)} {o : Oper}

theorem bound_of (h : Rel c0 G0 H0 B σ G H a c) (s : Sat g a.tmps) {x : Operand} {y d n : Nat} {p : Prop} {code : BoundsCode} (e : boundOf y (some (rd σ g x)) d = some (n, p)) (hp : p) :
    (Instr.sliceBound (a.eval x) y code).run cx.P c = .ok n c :=
  run_boundOf e (fun k i hx => by have := h.rd s x; rw [hx] at this; exact this) hp

theorem boundOf_le {y : Nat} {x : Option AVal} {d n : Nat} {p : Prop} (e : boundOf y x d = some (n, p)) (hp : p) (hd : d ≤ y) : n ≤ y := by
  cases x with
  | none => simp [boundOf] at e; omega
  | some x =>
    unfold boundOf at e
    simp only at e
    split at e
    · simp only [Option.some.injEq, Prod.mk.injEq] at e
      obtain ⟨rfl, rfl⟩ := e
      omega
    · cases e

theorem run_bounds (h : Rel c0 G0 H0 B σ G H a c) (s : Sat g a.tmps) {lo hi : Option Operand} {len cap hh ll : Nat} {ph pl : Prop} {b : Bool}
    (e1 : boundOf cap (hi.map (rd σ g)) len = some (hh, ph)) (e2 : boundOf hh (lo.map (rd σ g)) 0 = some (ll, pl)) (h1 : ph) (h2 : pl) :
    (Instr.sliceBounds b len cap (lo.map a.eval) (hi.map a.eval) none).run cx.P c = .ok (ll, hh, cap) c := by
  unfold Instr.sliceBounds
  simp only [Sem.run_bind, Sem.run_pure, Result.andThen_ok]
  cases hi with
  | none =>
    simp only [Option.map_none] at e1
    simp [boundOf] at e1
    obtain ⟨rfl, _⟩ := e1
    cases lo with
    | none =>
      simp only [Option.map_none] at e2
      simp [boundOf] at e2
      obtain ⟨rfl, _⟩ := e2
      simp
    | some l =>
      have := bound_of (cx := cx) (code := .sliceB) h s e2 h2
      simp [this]
  | some i =>
    have t1 := bound_of (cx := cx) (code := if b then .sliceAcap else .sliceAlen) h s e1 h1
    cases lo with
    | none =>
      simp only [Option.map_none] at e2
      simp [boundOf] at e2
      obtain ⟨rfl, _⟩ := e2
      simp [t1]
    | some l =>
      have t2 := bound_of (cx := cx) (code := .sliceB) h s e2 h2
      simp [t1, t2]

theorem run_bounds3 (h : Rel c0 G0 H0 B σ G H a c) (s : Sat g a.tmps) {lo : Option Operand} {hi mx : Operand} {len cap mm hh ll : Nat} {pm ph pl : Prop}
    (e1 : boundOf cap (some (rd σ g mx)) 0 = some (mm, pm)) (e2 : boundOf mm (some (rd σ g hi)) 0 = some (hh, ph)) (e3 : boundOf hh (lo.map (rd σ g)) 0 = some (ll, pl)) (h0 : pm) (h1 : ph) (h2 : pl) :
    (Instr.sliceBounds true len cap (lo.map a.eval) (some (a.eval hi)) (some (a.eval mx))).run cx.P c = .ok (ll, hh, mm) c := by
  have t0 := bound_of (cx := cx) (code := .slice3Acap) h s e1 h0
  have t1 := bound_of (cx := cx) (code := .slice3B) h s e2 h1
  unfold Instr.sliceBounds
  cases lo with
  | none =>
    simp only [Option.map_none] at e3
    simp [boundOf] at e3
    obtain ⟨rfl, _⟩ := e3
    simp [t0, t1]
  | some l =>
    have t2 := bound_of (cx := cx) (code := .slice3C) h s e3 h2
    simp [t0, t1, t2]

theorem eff_slice (h : Rel c0 G0 H0 B σ G H a c) (s : Sat g a.tmps) {t : TypeId} {x : Operand} {lo hi mx : Option Operand} (ho : o.op = .slice t x lo hi mx) : EffSem cx.P B c (eff cx fx σ g o) ((execOp a.eval o).run cx.P c) := by
  unfold eff
  rw [ho]
  cases mx with
  | some m =>
    cases hi with
    | none => exact trivial
    | some hi =>
      simp only
      unfold effSlice3
      split
      · rename_i v hv
        have ex : a.eval x = v := by have := h.rd s x; rw [hv] at this; exact this
        split
        · rename_i p n cp
          split
          · rename_i e hu
            have hu' := under_some hu (by simp)
            split
            · rename_i mm pm e1
              split
              · rename_i hh ph e2
                split
                · rename_i ll pl e3
                  cases hs : Nat.beq (cx.size e) 0 with
                  | true => exact trivial
                  | false =>
                    have h0 : 0 < cx.size e := by
                      rcases Nat.eq_zero_or_pos (cx.size e) with e | e
                      · rw [e] at hs; cases hs
                      · exact e
                    simp only [cond_false]
                    rintro ⟨p1, p2, p3⟩
                    refine ⟨_, ?_, rfl⟩
                    have := run_bounds3 (cx := cx) (len := n) h s e1 e2 e3 p1 p2 p3
                    unfold execOp
                    rw [ho]
                    simp only [Sem.run_bind, Instr.sliceAt, Instr.slice, run_underlying hu', Result.andThen_ok, ex, Option.map_some, this, Sem.run_pure, run_size h0]
                · exact trivial
              · exact trivial
            · exact trivial
          · exact trivial
        · exact trivial
      · exact trivial
  | none =>
    simp only
    unfold effSlice
    split
    · rename_i v hv
      have ex : a.eval x = v := by have := h.rd s x; rw [hv] at this; exact this
      split
      · rename_i z
        split
        · rename_i hu
          have hu' := under_some hu (by simp)
          split
          · rename_i hh ph e1
            split
            · rename_i ll pl e2
              rintro ⟨p1, p2⟩
              refine ⟨_, ?_, rfl⟩
              have := run_bounds (cx := cx) (b := false) h s e1 e2 p1 p2
              unfold execOp
              rw [ho]
              simp only [Sem.run_bind, Instr.sliceAt, Instr.slice, run_underlying hu', Result.andThen_ok, ex, Option.map_none, Sem.run_pure]
              simp [Result.andThen_ok, this]
            · exact trivial
          · exact trivial
        · exact trivial
      · rename_i p n cp
        split
        · rename_i e hu
          have hu' := under_some hu (by simp)
          split
          · rename_i hh ph e1
            split
            · rename_i ll pl e2
              cases hs : Nat.beq (cx.size e) 0 with
              | true => exact trivial
              | false =>
                have h0 : 0 < cx.size e := by
                  rcases Nat.eq_zero_or_pos (cx.size e) with e | e
                  · rw [e] at hs; cases hs
                  · exact e
                simp only [cond_false]
                rintro ⟨p1, p2⟩
                refine ⟨_, ?_, rfl⟩
                have := run_bounds (cx := cx) (b := true) h s e1 e2 p1 p2
                unfold execOp
                rw [ho]
                simp only [Sem.run_bind, Instr.sliceAt, Instr.slice, run_underlying hu', Result.andThen_ok, ex, Option.map_none, this, Sem.run_pure, run_size h0]
            · exact trivial
          · exact trivial
        · exact trivial
      · exact trivial
    · exact trivial

def zeroCells' (zero : Array Value) (n : Nat) : Array Value := (Array.range (n * zero.size)).map fun i => zero[i % zero.size]!
theorem repeat_one {z : List Value} (h : z.all Value.oneCell' = true) : ∀ (n : Nat), ∀ x ∈ repeatL z n, x.oneCell' = true
  | 0, x, hx => by simp [repeatL] at hx
  | n + 1, x, hx => by
    simp only [repeatL, List.mem_append] at hx
    rcases hx with hx | hx
    · exact List.all_eq_true.1 h x hx
    · exact repeat_one h n x hx

theorem eff_makeChan (h : Rel c0 G0 H0 B σ G H a c) (s : Sat g a.tmps) {t : TypeId} {x : Operand} (ho : o.op = .makeChan t x) : EffSem cx.P B c (eff cx fx σ g o) ((execOp a.eval o).run cx.P c) := by
  unfold eff
  rw [ho]
  simp only
  split
  · rename_i d e hu
    have hu' := under_some hu (by simp)
    split
    · rename_i k n hn
      cases hc : (decide (0 ≤ n) && (decide (n ≤ 1000000) && ((cx.P.info? e).isSome && Nat.ble (cx.P.bytesOf e) 1000000))) with
      | false => exact trivial
      | true =>
        simp only [Bool.and_eq_true, decide_eq_true_eq, Nat.ble_eq] at hc
        obtain ⟨h1, h2, h3, h4⟩ := hc
        obtain ⟨i, hi⟩ := Option.isSome_iff_exists.1 h3
        have hb : cx.P.bytesOf e = i.bytes := by simp [Program.bytesOf, hi]
        rw [hb] at h4
        have hbig : ¬ ((i.bytes : Int) * n > 2 ^ 48 - 112) := by
          have : (i.bytes : Int) * n ≤ 1000000 * 1000000 := Int.mul_le_mul (by omega) h2 h1 (by omega)
          omega
        have hmax : ¬ n > IntKind.i64.max := by
          have e : IntKind.i64.max = 9223372036854775807 := by decide
          rw [e]; omega
        simp only [cond_true]
        refine ⟨?_, rfl⟩
        unfold execOp
        rw [ho]
        have hcond : ¬ (n < 0 ∨ n > IntKind.i64.max ∨ (i.bytes : Int) * n > 2 ^ 48 - 112) := by
          rintro (h | h | h)
          · omega
          · exact hmax h
          · exact hbig h
        simp only [Sem.run_bind, Instr.makeChan, h.rdi s hn, asInt, asIntOf, Sem.run_pure, run_underlying hu', Result.andThen_ok, typeInfo, run_program, hi]
        rw [if_neg hcond]
        rfl
    · exact trivial
  · exact trivial

theorem chanOf?_some {x : AVal} {c : Option Nat} (h : chanOf? x = some c) : x = .v (.chan c) := by
  cases x with
  | v y => cases y <;> simp [chanOf?] at h; rw [h]
  | bp id off => simp [chanOf?] at h
  | junk => simp [chanOf?] at h
theorem Rel.rdch (h : Rel c0 G0 H0 B σ G H a c) (s : Sat g a.tmps) {x : Operand} {y : Option Nat} (e : chanOf? (Ev.rd σ g x) = some y) : a.eval x = .chan y := by
  have := h.rd s x; rw [chanOf?_some e] at this; exact this

theorem eff_select (h : Rel c0 G0 H0 B σ G H a c) (s : Sat g a.tmps) {cases : Array SelectCase} {bl : Bool} (ho : o.op = .select cases bl) : EffSem cx.P B c (eff cx fx σ g o) ((execOp a.eval o).run cx.P c) := by
  unfold eff
  rw [ho]
  cases bl with
  | true => exact trivial
  | false =>
    simp only
    split
    · rename_i sc hsc
      split
      · rename_i y hy
        split
        · rename_i ch hch
          split
          · rename_i v hv
            cases hz : (cx.zero sc.elem).isSome with
            | false => exact trivial
            | true =>
              obtain ⟨z, hz'⟩ := Option.isSome_iff_exists.1 hz
              simp only [cond_true]
              have e1 : cases = #[sc] := by apply Array.toList_inj.1; simp [hsc]
              refine ⟨z, ?_⟩
              unfold execOp
              rw [ho, e1]
              simp [run_zeroValue hz', hy, h.rdch s hch, h.rdv s hv]
          · exact trivial
        · exact trivial
      · exact trivial
    · exact trivial

theorem eff_recv (h : Rel c0 G0 H0 B σ G H a c) (s : Sat g a.tmps) {t : TypeId} {x : Operand} {b : Bool} (ho : o.op = .recv t x b) : EffSem cx.P B c (eff cx fx σ g o) ((execOp a.eval o).run cx.P c) := by
  unfold eff
  rw [ho]
  cases b with
  | true => exact trivial
  | false =>
    simp only
    split
    · rename_i d e hu
      have hu' := under_some hu (by simp)
      split
      · rename_i ch hch
        cases hz : (cx.zero e).isSome with
        | false => exact trivial
        | true =>
          obtain ⟨z, hz'⟩ := Option.isSome_iff_exists.1 hz
          simp only [cond_true]
          refine ⟨z, ?_⟩
          unfold execOp
          rw [ho]
          simp [run_underlying hu', run_zeroValue hz', h.rdch s hch]
      · exact trivial
    · exact trivial

theorem eff_call (h : Rel c0 G0 H0 B σ G H a c) (s : Sat g a.tmps) (hgood : ∀ f, cx.good f = true → GoodFn cx.P f) {cl : Call} (ho : o.op = .call cl) : EffSem cx.P B c (eff cx fx σ g o) ((execOp a.eval o).run cx.P c) := by
  unfold eff
  rw [ho]
  simp only
  unfold effCall
  split
  · rename_i f hcal
    split
    · rename_i n first captured hf
      have ef := h.rdv s hf
      cases hg : cx.good n with
      | false => exact trivial
      | true =>
        simp only [cond_true]
        split
        · rename_i vs hvs
          have evs := vals?_eq h s _ _ hvs
          have hargs : (first ++ cl.args.map a.eval) ++ captured = (first.toList ++ vs ++ captured.toList).toArray := by
            rw [← evs]
            apply Array.toList_inj.1
            simp
          have hr : (execOp a.eval o).run cx.P c = .ok (.enter n (first.toList ++ vs ++ captured.toList).toArray) c := by
            unfold execOp
            rw [ho]
            simp only [Sem.run_bind, resolve, hcal, Deferred.ofValue, ef, Sem.run_pure, Result.andThen_ok, invoke]
            rw [hargs, run_callFunc (hgood n hg)]
          cases cx.pure n with
          | true => exact hr
          | false => exact hr
        · exact trivial
    · exact trivial
  · rename_i b hcal
    have hr : (execOp a.eval o).run cx.P c = (builtin b cl.argTypes o.type (cl.args.map fun | .const _ => true | _ => false) (cl.args.map a.eval)).run cx.P c := by
      unfold execOp
      rw [ho]
      simp only [Sem.run_bind, resolve, hcal, Sem.run_pure, Result.andThen_ok, invoke]
      rfl
    rw [hr]
    split
    · -- len
      rename_i x t hargs htys
      have ea : cl.args.map a.eval = #[a.eval x] := by apply Array.toList_inj.1; simp [hargs]
      have et : cl.argTypes = #[t] := by apply Array.toList_inj.1; simp [htys]
      rw [ea, et]
      unfold effLen
      split
      · rename_i v hv
        have ex : a.eval x = v := by have := h.rd s x; rw [hv] at this; exact this
        rw [ex]
        split
        · rename_i z hu
          have hu' := under_some hu (by simp)
          refine sem_val (v := .int .i64 z.size) ?_ rfl
          simp [builtin, Builtin.len_, run_underlying hu', goInt]
        · rename_i e p n m hu
          have hu' := under_some hu (by simp)
          refine sem_val (v := .int .i64 n) ?_ rfl
          simp [builtin, Builtin.len_, run_underlying hu', goInt]
        · rename_i w n e hu
          have hu' := under_some hu (by simp)
          refine sem_val (v := .int .i64 n) ?_ rfl
          cases w <;> simp [builtin, Builtin.len_, run_underlying hu', goInt]
        · exact trivial
      · exact trivial
    · -- append
      rename_i x y t u hargs htys
      have ea : cl.args.map a.eval = #[a.eval x, a.eval y] := by apply Array.toList_inj.1; simp [hargs]
      have et : cl.argTypes = #[t, u] := by apply Array.toList_inj.1; simp [htys]
      split
      · rename_i p q hp hq
        split
        · rename_i e e' hu hu2
          have hu' := under_some hu (by simp)
          split
          · rename_i z hz
            cases hc : (Nat.beq t u && Nat.blt 0 (cx.size e) && Nat.beq z.cells.size (cx.size e)) with
            | false => exact trivial
            | true =>
              simp only [Bool.and_eq_true, Nat.blt_eq] at hc
              obtain ⟨⟨h1, h2⟩, h3⟩ := hc
              have h1' := Nat.eq_of_beq_eq_true h1
              subst h1'
              obtain ⟨i, hi, hiz⟩ := zero_some hz
              simp only [cond_true]
              refine ⟨t, o.type, i, z, hu', hi, hiz, by simp [Cx.size, Program.cellsOf, hi], by simp [Program.bytesOf, hi], Nat.eq_of_beq_eq_true h3, h2, ?_⟩
              rw [ea, et, h.rdsl s hp, h.rdsl s hq]
              simp only [builtin, Sem.run_bind, Sem.run_pure]
          · exact trivial
        · exact trivial
      · exact trivial
    · -- clear
      rename_i x t hargs htys
      have ea : cl.args.map a.eval = #[a.eval x] := by apply Array.toList_inj.1; simp [hargs]
      have et : cl.argTypes = #[t] := by apply Array.toList_inj.1; simp [htys]
      split
      · rename_i p hp
        split
        · rename_i e hu
          have hu' := under_some hu (by simp)
          split
          · rename_i z hz
            cases hc : (z.cells.toList.all Value.oneCell' && Nat.blt 0 z.cells.size) with
            | false => exact trivial
            | true =>
              simp only [Bool.and_eq_true, Nat.blt_eq] at hc
              obtain ⟨h1, h2⟩ := hc
              simp only [cond_true]
              rw [ea, et, h.rdsl s hp]
              have hzc : (zeroCells' z.cells p.len).toList = repeatL z.cells.toList p.len := by
                unfold zeroCells'
                rw [range_repeat z.cells p.len h2]
              refine ⟨fun hn => ?_, fun hn ad cur ty hx hb hsp hle => ?_⟩
              · rw [hn]
                cases hpa : p.a with
                | none => simp [builtin, Builtin.clear_, run_underlying hu']
                | some a' => simp [builtin, Builtin.clear_, run_underlying hu']
              · obtain ⟨k, hk⟩ : ∃ k, p.len = k + 1 := ⟨p.len - 1, by omega⟩
                have hst := run_storeCells_at cx.P ad.block ad.off ty (repeatL z.cells.toList p.len) 0 cur c hb (by simpa using hle) (fun x hx => repeat_one h1 p.len x hx)
                have had : (⟨ad.block, ad.off, none⟩ : Addr) = ad := by rw [← hsp]
                rw [hx]
                simp only [Nat.add_zero, had] at hst
                have hz' : (Builtin.zeroCells z.cells p.len).toList = repeatL z.cells.toList p.len := hzc
                have hcl : (Builtin.clear_ #[t] o.type #[.slice (some ad) p.len p.cap]).run cx.P c = .ok (.tuple #[]) (c.setRow ad.block (cur.toList.take ad.off ++ repeatL z.cells.toList p.len ++ cur.toList.drop (ad.off + (repeatL z.cells.toList p.len).length)).toArray) := by
                  rw [hk] at hst hz' ⊢
                  simp [Builtin.clear_, run_underlying hu', run_zeroValue hz, hz', hst]
                simp only [builtin, Sem.run_bind, hcl, Result.andThen_ok, Sem.run_pure]
          · exact trivial
        · exact trivial
      · exact trivial
    · -- min
      rename_i _ x y hargs
      have ea : cl.args.map a.eval = #[a.eval x, a.eval y] := by apply Array.toList_inj.1; simp [hargs]
      split
      · rename_i k p k' q hp hq
        cases hc : (decide (k = .i64) && decide (k' = .i64)) with
        | false => exact trivial
        | true =>
          simp only [Bool.and_eq_true, decide_eq_true_eq] at hc
          obtain ⟨rfl, rfl⟩ := hc
          refine sem_val (v := .int .i64 (min p q)) ?_ rfl
          rw [ea, h.rdi s hp, h.rdi s hq]
          have e : (if q < p then q else p) = min p q := by by_cases hlt : q < p <;> simp [hlt] <;> omega
          simp [builtin, Builtin.min_, Builtin.min2, e]
      · exact trivial
    · -- max
      rename_i _ x y hargs
      have ea : cl.args.map a.eval = #[a.eval x, a.eval y] := by apply Array.toList_inj.1; simp [hargs]
      split
      · rename_i k p k' q hp hq
        cases hc : (decide (k = .i64) && decide (k' = .i64)) with
        | false => exact trivial
        | true =>
          simp only [Bool.and_eq_true, decide_eq_true_eq] at hc
          obtain ⟨rfl, rfl⟩ := hc
          refine sem_val (v := .int .i64 (max p q)) ?_ rfl
          rw [ea, h.rdi s hp, h.rdi s hq]
          have e : (if p < q then q else p) = max p q := by by_cases hlt : p < q <;> simp [hlt] <;> omega
          simp [builtin, Builtin.max_, Builtin.max2, e]
      · exact trivial
    · exact trivial
  · exact trivial

theorem eff_sound (h : Rel c0 G0 H0 B σ G H a c) (s : Sat g a.tmps) (hgood : ∀ f, cx.good f = true → GoodFn cx.P f) (heq : ∀ t, cx.eqT t = true → EqOK cx t) :
    EffSem cx.P B c (effOf cx fx σ g o) ((execOp a.eval o).run cx.P c) := by
  unfold effOf
  cases ho : o.op with
  | pick x y z => exact eff_pick h s ho
  | move x => simp only; unfold eff; rw [ho]; exact eff_move h s (.inl ho)
  | assign x => simp only; unfold eff; rw [ho]; exact eff_move h s (.inr ho)
  | alloc e => exact eff_alloc ho
  | box e x => exact eff_box h s ho
  | build t ps => exact eff_build h s ho
  | buildSlice t n ps => exact eff_buildSlice h s ho
  | load t x => exact eff_load h s ho
  | store t x y => exact eff_store h s ho
  | nilCheck x => exact eff_nil h s ho
  | binOp op t x y u =>
    simp only
    unfold eff
    rw [ho]
    simp only
    split
    · rename_i p q hp hq
      exact eff_bin h s heq ho hp hq
    · exact trivial
  | unOp op t x => exact eff_un h s ho
  | convert t u x => exact eff_convert h s ho
  | makeFunc f x y => exact eff_makeFunc h s ho
  | makeSlice t x y => exact eff_makeSlice h s ho
  | slice t x lo hi mx => exact eff_slice h s ho
  | fieldAddr t x f => exact eff_fieldAddr h s ho
  | field t x f => exact eff_field h s ho
  | indexAddr t x y => exact eff_indexAddr h s ho
  | index t x y => exact eff_index h s ho
  | extract x i => exact eff_extract h s ho
  | call cl => exact eff_call h s hgood ho
  | makeChan t x => exact eff_makeChan h s ho
  | select cs b => exact eff_select h s ho
  | recv t x b => exact eff_recv h s ho
  | _ => simp only; unfold eff; rw [ho]; exact trivial

end

end Go.Ev
