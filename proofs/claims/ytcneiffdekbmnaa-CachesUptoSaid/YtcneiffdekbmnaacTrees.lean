/- The trees of this seat's functions: printed by this work's own program (wip/tools), each held against the evaluator by 'kernel_rfl'. -/
import Derived.Test.YtcneiffdekbmnaacCx
set_option maxRecDepth 100000
set_option maxHeartbeats 0
set_option linter.unusedVariables false
namespace Go.Ev.Cache
open Go Go.Ev Go.Proofs

/-- a struct -/
abbrev S23 : Sh := (.agg (.pair (.int .i64) (.pair (.int .i64) (.pair (.int .i64) (.pair (.int .i64) (.int .i64))))))
abbrev D23 : Type := (Int × (Int × (Int × (Int × Int))))
/-- a struct -/
abbrev S25 : Sh := (.agg (.pair (.agg (.pair (.int .i64) (.pair (.int .i64) (.pair (.int .i64) (.pair (.int .i64) (.int .i64)))))) (.pair (.int .i64) (.pair .bool (.pair (.int .i64) (.int .i64))))))
abbrev D25 : Type := (D23 × (Int × (Bool × (Int × Int))))

/-- wharfage/wharfagelaw16.Caches -/
def T3 (x0 : Sl) (x1 : D25) (x2 : D23) (x3 : Int) : T :=
 .call 4 [.slice x0.a x0.len x0.cap] .slice <| fun (r0 : Sl) =>
  .call 5 [.slice r0.a r0.len r0.cap, S25.enc x1] (.tup (.pair .slice (.pair S25 (.pair .bool (.int .i64))))) <| fun (r1 : (Sl × (D25 × (Bool × Int)))) =>
   .call 6 [.slice x0.a x0.len x0.cap, S25.enc x1] (.tup (.pair .slice (.pair S25 (.pair .bool (.int .i64))))) <| fun (r2 : (Sl × (D25 × (Bool × Int)))) =>
    .dcall (true) 7 [.slice r0.a r0.len r0.cap, S23.enc x2, .int .i64 x3] (.tup (.pair S25 .bool)) <| fun (r3 : (D25 × Bool)) =>
     .dcall (true) 8 [.slice x0.a x0.len x0.cap, S23.enc x2, .int .i64 x3] (.tup (.pair S25 .bool)) <| fun (r4 : (D25 × Bool)) =>
      .call 9 [.slice r0.a r0.len r0.cap, S23.enc x2] (.tup (.pair .slice (.int .i64))) <| fun (r5 : (Sl × Int)) =>
       .call 10 [.slice x0.a x0.len x0.cap, S23.enc x2] (.tup (.pair .slice (.int .i64))) <| fun (r6 : (Sl × Int)) =>
        .call 11 [.slice r0.a r0.len r0.cap, .int .i64 x3] (.tup (.pair .slice (.pair .slice (.int .i64)))) <| fun (r7 : (Sl × (Sl × Int))) =>
         .call 12 [.slice x0.a x0.len x0.cap, .int .i64 x3] (.tup (.pair .slice (.pair .slice (.int .i64)))) <| fun (r8 : (Sl × (Sl × Int))) =>
          .dcall (true) 13 [.slice r1.1.a r1.1.len r1.1.cap, .slice r2.1.a r2.1.len r2.1.cap] .bool <| fun (r9 : Bool) =>
           .dcall (!bif bif !r9 then true else !eqDen S25 r1.2.1 r2.2.1 then true else !r1.2.2.1 == r2.2.2.1) 14 [.int .i64 r1.2.2.2] (.int .i64) <| fun (r10 : Int) =>
            .dcall (!bif bif bif bif bif !r9 then true else !eqDen S25 r1.2.1 r2.2.1 then true else !r1.2.2.1 == r2.2.2.1 then true else r10 != r2.2.2.2 then true else !eqDen S25 r3.1 r4.1 then true else !r3.2 == r4.2) 13 [.slice r5.1.a r5.1.len r5.1.cap, .slice r6.1.a r6.1.len r6.1.cap] .bool <| fun (r11 : Bool) =>
             .dcall (!bif bif bif bif bif bif !r9 then true else !eqDen S25 r1.2.1 r2.2.1 then true else !r1.2.2.1 == r2.2.2.1 then true else r10 != r2.2.2.2 then true else !eqDen S25 r3.1 r4.1 then true else !r3.2 == r4.2 then true else !r11) 14 [.int .i64 r5.2] (.int .i64) <| fun (r12 : Int) =>
              .dcall (!bif bif bif bif bif bif bif !r9 then true else !eqDen S25 r1.2.1 r2.2.1 then true else !r1.2.2.1 == r2.2.2.1 then true else r10 != r2.2.2.2 then true else !eqDen S25 r3.1 r4.1 then true else !r3.2 == r4.2 then true else !r11 then true else r12 != r6.2) 13 [.slice r7.1.a r7.1.len r7.1.cap, .slice r8.1.a r8.1.len r8.1.cap] .bool <| fun (r13 : Bool) =>
               .dcall (!bif bif bif bif bif bif bif bif !r9 then true else !eqDen S25 r1.2.1 r2.2.1 then true else !r1.2.2.1 == r2.2.2.1 then true else r10 != r2.2.2.2 then true else !eqDen S25 r3.1 r4.1 then true else !r3.2 == r4.2 then true else !r11 then true else r12 != r6.2 then true else !r13) 13 [.slice r7.2.1.a r7.2.1.len r7.2.1.cap, .slice r8.2.1.a r8.2.1.len r8.2.1.cap] .bool <| fun (r14 : Bool) =>
                .dcall (!bif bif bif bif bif bif bif bif bif !r9 then true else !eqDen S25 r1.2.1 r2.2.1 then true else !r1.2.2.1 == r2.2.2.1 then true else r10 != r2.2.2.2 then true else !eqDen S25 r3.1 r4.1 then true else !r3.2 == r4.2 then true else !r11 then true else r12 != r6.2 then true else !r13 then true else !r14) 14 [.int .i64 r7.2.2] (.int .i64) <| fun (r15 : Int) =>
                 .dcall (!bif bif bif bif bif bif bif bif bif bif !r9 then true else !eqDen S25 r1.2.1 r2.2.1 then true else !r1.2.2.1 == r2.2.2.1 then true else r10 != r2.2.2.2 then true else !eqDen S25 r3.1 r4.1 then true else !r3.2 == r4.2 then true else !r11 then true else r12 != r6.2 then true else !r13 then true else !r14 then true else r15 != r8.2.2) 15 [.slice r0.a r0.len r0.cap] .bool <| fun (r16 : Bool) =>
                  .dcall (!bif bif bif bif bif bif bif bif bif bif !r9 then true else !eqDen S25 r1.2.1 r2.2.1 then true else !r1.2.2.1 == r2.2.2.1 then true else r10 != r2.2.2.2 then true else !eqDen S25 r3.1 r4.1 then true else !r3.2 == r4.2 then true else !r11 then true else r12 != r6.2 then true else !r13 then true else !r14 then true else r15 != r8.2.2) 16 [.slice x0.a x0.len x0.cap] .bool <| fun (r17 : Bool) =>
                   .cond (bif bif bif bif bif bif bif bif bif bif bif !r9 then true else !eqDen S25 r1.2.1 r2.2.1 then true else !r1.2.2.1 == r2.2.2.1 then true else r10 != r2.2.2.2 then true else !eqDen S25 r3.1 r4.1 then true else !r3.2 == r4.2 then true else !r11 then true else r12 != r6.2 then true else !r13 then true else !r14 then true else r15 != r8.2.2 then true else !r16 == r17) (
                    .ret (.bool false)) (
                    .call 17 [.slice r1.1.a r1.1.len r1.1.cap] (.tup .unit) <| fun (r18 : Unit) =>
                     .call 17 [.slice r5.1.a r5.1.len r5.1.cap] (.tup .unit) <| fun (r19 : Unit) =>
                      .call 17 [.slice r7.1.a r7.1.len r7.1.cap] (.tup .unit) <| fun (r20 : Unit) =>
                       .call 17 [.slice r7.2.1.a r7.2.1.len r7.2.1.cap] (.tup .unit) <| fun (r21 : Unit) =>
                        .dcall (true) 18 [.slice r0.a r0.len r0.cap, .slice x0.a x0.len x0.cap] .bool <| fun (r22 : Bool) =>
                         .dcall (r22) 19 [] .bool <| fun (r23 : Bool) =>
                          .ret (.bool (bif r22 then r23 else false)))
noncomputable def fx3 : Fx := { loops := fun _ => ⟨[], [], []⟩, esc := fun n => memN n [], own := fun n => memN n [] }
theorem T3_eq (x0 : Sl) (x1 : D25) (x2 : D23) (x3 : Int) : evFn cx fx3 Try.f3 [.slice x0.a x0.len x0.cap, S25.enc x1, S23.enc x2, .int .i64 x3] = T3 x0 x1 x2 x3 := by kernel_rfl

/-- wharfage/wharfagelaw0.LendEntrys -/
def T4 (x0 : Sl) : T :=
 .call 20 [.slice x0.a x0.len x0.cap] .slice <| fun (r0 : Sl) =>
  .lit (true) [.int .i64 ((0 : Int)), .int .i64 ((0 : Int)), .int .i64 ((0 : Int)), .int .i64 ((0 : Int)), .int .i64 ((0 : Int)), .int .i64 ((77777 : Int)), .bool false, .int .i64 ((0 : Int)), .int .i64 ((0 : Int)), .int .i64 ((0 : Int)), .int .i64 ((0 : Int)), .int .i64 ((0 : Int)), .int .i64 ((0 : Int)), .int .i64 ((0 : Int)), .int .i64 ((77777 : Int)), .bool false, .int .i64 ((0 : Int)), .int .i64 ((0 : Int))] 26 <| fun (n1 : Nat) =>
   .append 26 9 72 r0 ⟨(some ⟨n1, 0, none⟩), 2, 2⟩ <| fun (q2 : Sl) =>
    .must (true = true → ((0 : Int) ≤ (↑x0.len : Int) ∧ (↑x0.len : Int) ≤ (↑q2.cap : Int)) ∧ True) <|
    .ret (.slice (if q2.cap = 0 then q2.a else Option.map (fun x => x.add (0 * 9)) q2.a) ((↑x0.len : Int).toNat - 0) (q2.cap - 0))
noncomputable def fx4 : Fx := { loops := fun _ => ⟨[], [], []⟩, esc := fun n => memN n [], own := fun n => memN n [] }
theorem T4_eq (x0 : Sl) : evFn cx fx4 Try.f4 [.slice x0.a x0.len x0.cap] = T4 x0 := by kernel_rfl

/-- wharfage/cache.Put -/
def T5 (x0 : Sl) (x1 : D25) : T :=
 .new [.int .i64 x1.1.1, .int .i64 x1.1.2.1, .int .i64 x1.1.2.2.1, .int .i64 x1.1.2.2.2.1, .int .i64 x1.1.2.2.2.2, .int .i64 x1.2.1, .bool x1.2.2.1, .int .i64 x1.2.2.2.1, .int .i64 x1.2.2.2.2] 26 <| fun (n0 : Nat) =>
  .dcall (true) 15 [.slice x0.a x0.len x0.cap] .bool <| fun (r1 : Bool) =>
   .load (!!r1) S25 ({ block := n0, off := 0 }) <| fun (m2 : D25) =>
    .dcall (!!r1) 21 [S25.enc m2] .bool <| fun (r3 : Bool) =>
     .cond (bif !r1 then true else !r3) (
      .ret (.tuple #[.slice none (0) (0), .agg #[.int .i64 ((0 : Int)), .int .i64 ((0 : Int)), .int .i64 ((0 : Int)), .int .i64 ((0 : Int)), .int .i64 ((0 : Int)), .int .i64 ((0 : Int)), .bool false, .int .i64 ((0 : Int)), .int .i64 ((0 : Int))], .bool false, .int .i64 ((1600 : Int))])) (
      .call 22 [.slice x0.a x0.len x0.cap, .func (.func 23) #[] #[.pointer (some ⟨n0, 0, none⟩)]] (.tup (.pair .slice .slice)) <| fun (r4 : (Sl × Sl)) =>
       .load (true) S25 ({ block := n0, off := 0 }) <| fun (m5 : D25) =>
        .lit (true) [.int .i64 m5.1.1, .int .i64 m5.1.2.1, .int .i64 m5.1.2.2.1, .int .i64 m5.1.2.2.2.1, .int .i64 m5.1.2.2.2.2, .int .i64 m5.2.1, .bool m5.2.2.1, .int .i64 m5.2.2.2.1, .int .i64 m5.2.2.2.2] 26 <| fun (n6 : Nat) =>
         .append 26 9 72 r4.2 ⟨(some ⟨n6, 0, none⟩), 1, 1⟩ <| fun (q7 : Sl) =>
          .cond (decide ((↑q7.len : Int) > (8 : Int))) (
           .must (true = true → True ∧ (0 : Int) ≤ (1 : Int) ∧ (1 : Int) ≤ (↑q7.len : Int)) <|
           .must (true = true → (0 : Int) ≤ (0 : Int) ∧ (0 : Int) < (↑q7.len : Int) ∧ q7.a.isSome = true) <|
           .load (true) S25 ((q7.a.getD { block := 0, off := 0 }).add (Int.toNat (0 : Int) * 9)) <| fun (m8 : D25) =>
            .ret (.tuple #[.slice (if q7.cap = Int.toNat (1 : Int) then q7.a else Option.map (fun x => x.add (Int.toNat (1 : Int) * 9)) q7.a) (q7.len - Int.toNat (1 : Int)) (q7.cap - Int.toNat (1 : Int)), S25.enc m8, .bool true, .int .i64 ((0 : Int))])) (
           .ret (.tuple #[.slice q7.a q7.len q7.cap, .agg #[.int .i64 ((0 : Int)), .int .i64 ((0 : Int)), .int .i64 ((0 : Int)), .int .i64 ((0 : Int)), .int .i64 ((0 : Int)), .int .i64 ((0 : Int)), .bool false, .int .i64 ((0 : Int)), .int .i64 ((0 : Int))], .bool false, .int .i64 ((0 : Int))])))
noncomputable def fx5 : Fx := { loops := fun _ => ⟨[], [], []⟩, esc := fun n => memN n [3], own := fun n => memN n [6] }
theorem T5_eq (x0 : Sl) (x1 : D25) : evFn cx fx5 Try.f5 [.slice x0.a x0.len x0.cap, S25.enc x1] = T5 x0 x1 := by kernel_rfl

/-- wharfage/wharfageref10.PutEntry -/
def T6 (x0 : Sl) (x1 : D25) : T :=
 .dcall (true) 16 [.slice x0.a x0.len x0.cap] .bool <| fun (r0 : Bool) =>
  .dcall (!!r0) 24 [S25.enc x1] .bool <| fun (r1 : Bool) =>
   .cond (bif !r0 then true else !r1) (
    .ret (.tuple #[.slice none (0) (0), .agg #[.int .i64 ((0 : Int)), .int .i64 ((0 : Int)), .int .i64 ((0 : Int)), .int .i64 ((0 : Int)), .int .i64 ((0 : Int)), .int .i64 ((0 : Int)), .bool false, .int .i64 ((0 : Int)), .int .i64 ((0 : Int))], .bool false, .int .i64 ((1600 : Int))])) (
    .both (
     .call 25 [.slice x0.a x0.len x0.cap, S23.enc x1.1] .slice <| fun (r2 : Sl) =>
      .lit (true) [.int .i64 x1.1.1, .int .i64 x1.1.2.1, .int .i64 x1.1.2.2.1, .int .i64 x1.1.2.2.2.1, .int .i64 x1.1.2.2.2.2, .int .i64 x1.2.1, .bool x1.2.2.1, .int .i64 x1.2.2.2.1, .int .i64 x1.2.2.2.2] 26 <| fun (n3 : Nat) =>
       .append 26 9 72 r2 ⟨(some ⟨n3, 0, none⟩), 1, 1⟩ <| fun (q4 : Sl) =>
        .cond (decide ((↑q4.len : Int) > (8 : Int))) (
         .must (true = true → True ∧ (0 : Int) ≤ (1 : Int) ∧ (1 : Int) ≤ (↑q4.len : Int)) <|
         .must (true = true → (0 : Int) ≤ (0 : Int) ∧ (0 : Int) < (↑q4.len : Int) ∧ q4.a.isSome = true) <|
         .loadG (true) S25 ((q4.a.getD { block := 0, off := 0 }).add (Int.toNat (0 : Int) * 9)) <| fun (m5 : D25) =>
          .lit (true) [] 26 <| fun (n6 : Nat) =>
           .append 26 9 72 ⟨(some ⟨n6, 0, none⟩), 0, 0⟩ ⟨(if q4.cap = Int.toNat (1 : Int) then q4.a else Option.map (fun x => x.add (Int.toNat (1 : Int) * 9)) q4.a), q4.len - Int.toNat (1 : Int), q4.cap - Int.toNat (1 : Int)⟩ <| fun (q7 : Sl) =>
            .ret (.tuple #[.slice q7.a q7.len q7.cap, S25.enc m5, .bool true, .int .i64 ((0 : Int))])) (
         .ret (.tuple #[.slice q4.a q4.len q4.cap, .agg #[.int .i64 ((0 : Int)), .int .i64 ((0 : Int)), .int .i64 ((0 : Int)), .int .i64 ((0 : Int)), .int .i64 ((0 : Int)), .int .i64 ((0 : Int)), .bool false, .int .i64 ((0 : Int)), .int .i64 ((0 : Int))], .bool false, .int .i64 ((0 : Int))]))) (
     .lit (true) [.int .i64 x1.1.1, .int .i64 x1.1.2.1, .int .i64 x1.1.2.2.1, .int .i64 x1.1.2.2.2.1, .int .i64 x1.1.2.2.2.2, .int .i64 x1.2.1, .bool x1.2.2.1, .int .i64 x1.2.2.2.1, .int .i64 x1.2.2.2.2] 26 <| fun (n2 : Nat) =>
      .call 25 [.slice x0.a x0.len x0.cap, S23.enc x1.1] .slice <| fun (r3 : Sl) =>
       .append 26 9 72 r3 ⟨(some ⟨n2, 0, none⟩), 1, 1⟩ <| fun (q4 : Sl) =>
        .cond (decide ((↑q4.len : Int) > (8 : Int))) (
         .must (true = true → True ∧ (0 : Int) ≤ (1 : Int) ∧ (1 : Int) ≤ (↑q4.len : Int)) <|
         .must (true = true → (0 : Int) ≤ (0 : Int) ∧ (0 : Int) < (↑q4.len : Int) ∧ q4.a.isSome = true) <|
         .loadG (true) S25 ((q4.a.getD { block := 0, off := 0 }).add (Int.toNat (0 : Int) * 9)) <| fun (m5 : D25) =>
          .lit (true) [] 26 <| fun (n6 : Nat) =>
           .append 26 9 72 ⟨(some ⟨n6, 0, none⟩), 0, 0⟩ ⟨(if q4.cap = Int.toNat (1 : Int) then q4.a else Option.map (fun x => x.add (Int.toNat (1 : Int) * 9)) q4.a), q4.len - Int.toNat (1 : Int), q4.cap - Int.toNat (1 : Int)⟩ <| fun (q7 : Sl) =>
            .ret (.tuple #[.slice q7.a q7.len q7.cap, S25.enc m5, .bool true, .int .i64 ((0 : Int))])) (
         .ret (.tuple #[.slice q4.a q4.len q4.cap, .agg #[.int .i64 ((0 : Int)), .int .i64 ((0 : Int)), .int .i64 ((0 : Int)), .int .i64 ((0 : Int)), .int .i64 ((0 : Int)), .int .i64 ((0 : Int)), .bool false, .int .i64 ((0 : Int)), .int .i64 ((0 : Int))], .bool false, .int .i64 ((0 : Int))]))))
noncomputable def fx6 : Fx := { loops := fun _ => ⟨[], [], []⟩, esc := fun n => memN n [], own := fun n => memN n [] }
theorem T6_eq (x0 : Sl) (x1 : D25) : evFn cx fx6 Try.f6 [.slice x0.a x0.len x0.cap, S25.enc x1] = T6 x0 x1 := by kernel_rfl

/-- wharfage/cache.Find -/
def T7 (x0 : Sl) (x1 : D23) (x2 : Int) : T :=
 .dcall (true) 26 [.slice x0.a x0.len x0.cap, S23.enc x1] (.int .i64) <| fun (r0 : Int) =>
  .dcall (!decide (r0 < (0 : Int))) 15 [.slice x0.a x0.len x0.cap] .bool <| fun (r1 : Bool) =>
   .must ((!bif decide (r0 < (0 : Int)) then true else !r1) = true → (0 : Int) ≤ r0 ∧ r0 < (↑x0.len : Int) ∧ x0.a.isSome = true) <|
   .load (!bif decide (r0 < (0 : Int)) then true else !r1) S25 ((x0.a.getD { block := 0, off := 0 }).add (r0.toNat * 9)) <| fun (m2 : D25) =>
    .dcall (!bif decide (r0 < (0 : Int)) then true else !r1) 27 [S25.enc m2, .int .i64 x2] .bool <| fun (r3 : Bool) =>
     .cond (bif bif decide (r0 < (0 : Int)) then true else !r1 then true else r3) (
      .ret (.tuple #[.agg #[.int .i64 ((0 : Int)), .int .i64 ((0 : Int)), .int .i64 ((0 : Int)), .int .i64 ((0 : Int)), .int .i64 ((0 : Int)), .int .i64 ((0 : Int)), .bool false, .int .i64 ((0 : Int)), .int .i64 ((0 : Int))], .bool false])) (
      .must (true = true → (0 : Int) ≤ r0 ∧ r0 < (↑x0.len : Int) ∧ x0.a.isSome = true) <|
      .load (true) S25 ((x0.a.getD { block := 0, off := 0 }).add (r0.toNat * 9)) <| fun (m4 : D25) =>
       .ret (.tuple #[S25.enc m4, .bool true]))
noncomputable def fx7 : Fx := { loops := fun _ => ⟨[], [], []⟩, esc := fun n => memN n [], own := fun n => memN n [] }
theorem T7_eq (x0 : Sl) (x1 : D23) (x2 : Int) : evFn cx fx7 Try.f7 [.slice x0.a x0.len x0.cap, S23.enc x1, .int .i64 x2] = T7 x0 x1 x2 := by kernel_rfl

/-- wharfage/wharfageref10.FindEntry -/
def T8 (x0 : Sl) (x1 : D23) (x2 : Int) : T :=
 .loop (.pair (.int .i64) (.pair S25 .unit)) ((0 : Int), ((((0 : Int), ((0 : Int), ((0 : Int), ((0 : Int), (0 : Int))))), ((0 : Int), (false, ((0 : Int), (0 : Int))))), ())) <| fun (v0 : (Int × (D25 × Unit))) =>
  .dcall (decide (v0.1 < (↑x0.len : Int))) 16 [.slice x0.a x0.len x0.cap] .bool <| fun (r1 : Bool) =>
   .cond (bif decide (v0.1 < (↑x0.len : Int)) then r1 else false) (
    .must (true = true → (0 : Int) ≤ v0.1 ∧ v0.1 < (↑x0.len : Int) ∧ x0.a.isSome = true) <|
    .load (true) S23 (((x0.a.getD { block := 0, off := 0 }).add (v0.1.toNat * 9)).add (0)) <| fun (m2 : D23) =>
     .must (eqDen S23 m2 x1 = true → (0 : Int) ≤ v0.1 ∧ v0.1 < (↑x0.len : Int) ∧ x0.a.isSome = true) <|
     .load (eqDen S23 m2 x1) S25 ((x0.a.getD { block := 0, off := 0 }).add (v0.1.toNat * 9)) <| fun (m3 : D25) =>
      .dcall (eqDen S23 m2 x1) 28 [S25.enc m3, .int .i64 x2] .bool <| fun (r4 : Bool) =>
       .cond (bif eqDen S23 m2 x1 then !r4 else false) (
        .must (true = true → (0 : Int) ≤ v0.1 ∧ v0.1 < (↑x0.len : Int) ∧ x0.a.isSome = true) <|
        .load (true) S25 ((x0.a.getD { block := 0, off := 0 }).add (v0.1.toNat * 9)) <| fun (m5 : D25) =>
         .pop <|
         .ret (.tuple #[S25.enc m5, .bool true])) (
        .again (.pair (.int .i64) (.pair S25 .unit)) (IntKind.i64.wrap (v0.1 + (1 : Int)), (v0.2.1, ())))) (
    .pop <|
    .ret (.tuple #[.agg #[.int .i64 ((0 : Int)), .int .i64 ((0 : Int)), .int .i64 ((0 : Int)), .int .i64 ((0 : Int)), .int .i64 ((0 : Int)), .int .i64 ((0 : Int)), .bool false, .int .i64 ((0 : Int)), .int .i64 ((0 : Int))], .bool false]))
noncomputable def fx8 : Fx := { loops := fun n => match n with | 2 => ⟨[.slot 8 ((.int .i64)), .box 1 (S25)], [0, 2, 4, 6], [0]⟩ | _ => ⟨[], [], []⟩, esc := fun n => memN n [], own := fun n => memN n [4] }
theorem T8_eq (x0 : Sl) (x1 : D23) (x2 : Int) : evFn cx fx8 Try.f8 [.slice x0.a x0.len x0.cap, S23.enc x1, .int .i64 x2] = T8 x0 x1 x2 := by kernel_rfl

/-- wharfage/cache.Drop -/
def T9 (x0 : Sl) (x1 : D23) : T :=
 .new [.int .i64 x1.1, .int .i64 x1.2.1, .int .i64 x1.2.2.1, .int .i64 x1.2.2.2.1, .int .i64 x1.2.2.2.2] 24 <| fun (n0 : Nat) =>
  .dcall (true) 15 [.slice x0.a x0.len x0.cap] .bool <| fun (r1 : Bool) =>
   .cond (!r1) (
    .ret (.tuple #[.slice none (0) (0), .int .i64 ((1600 : Int))])) (
    .call 22 [.slice x0.a x0.len x0.cap, .func (.func 29) #[] #[.pointer (some ⟨n0, 0, none⟩)]] (.tup (.pair .slice .slice)) <| fun (r2 : (Sl × Sl)) =>
     .ret (.tuple #[.slice r2.2.a r2.2.len r2.2.cap, .int .i64 ((0 : Int))]))
noncomputable def fx9 : Fx := { loops := fun _ => ⟨[], [], []⟩, esc := fun n => memN n [3], own := fun n => memN n [] }
theorem T9_eq (x0 : Sl) (x1 : D23) : evFn cx fx9 Try.f9 [.slice x0.a x0.len x0.cap, S23.enc x1] = T9 x0 x1 := by kernel_rfl

/-- wharfage/wharfageref10.DropEntry -/
def T10 (x0 : Sl) (x1 : D23) : T :=
 .dcall (true) 16 [.slice x0.a x0.len x0.cap] .bool <| fun (r0 : Bool) =>
  .cond (!r0) (
   .ret (.tuple #[.slice none (0) (0), .int .i64 ((1600 : Int))])) (
   .call 25 [.slice x0.a x0.len x0.cap, S23.enc x1] .slice <| fun (r1 : Sl) =>
    .ret (.tuple #[.slice r1.a r1.len r1.cap, .int .i64 ((0 : Int))]))
noncomputable def fx10 : Fx := { loops := fun _ => ⟨[], [], []⟩, esc := fun n => memN n [], own := fun n => memN n [] }
theorem T10_eq (x0 : Sl) (x1 : D23) : evFn cx fx10 Try.f10 [.slice x0.a x0.len x0.cap, S23.enc x1] = T10 x0 x1 := by kernel_rfl

/-- wharfage/cache.Sweep -/
def T11 (x0 : Sl) (x1 : Int) : T :=
 .new [.int .i64 x1] 3 <| fun (n0 : Nat) =>
  .dcall (true) 15 [.slice x0.a x0.len x0.cap] .bool <| fun (r1 : Bool) =>
   .load (!!r1) (.int .i64) ({ block := n0, off := 0 }) <| fun (m2 : Int) =>
    .dcall (!!r1) 30 [.int .i64 m2] .bool <| fun (r3 : Bool) =>
     .cond (bif !r1 then true else !r3) (
      .ret (.tuple #[.slice none (0) (0), .slice none (0) (0), .int .i64 ((1600 : Int))])) (
      .call 22 [.slice x0.a x0.len x0.cap, .func (.func 31) #[] #[.pointer (some ⟨n0, 0, none⟩)]] (.tup (.pair .slice .slice)) <| fun (r4 : (Sl × Sl)) =>
       .ret (.tuple #[.slice r4.2.a r4.2.len r4.2.cap, .slice r4.1.a r4.1.len r4.1.cap, .int .i64 ((0 : Int))]))
noncomputable def fx11 : Fx := { loops := fun _ => ⟨[], [], []⟩, esc := fun n => memN n [3], own := fun n => memN n [] }
theorem T11_eq (x0 : Sl) (x1 : Int) : evFn cx fx11 Try.f11 [.slice x0.a x0.len x0.cap, .int .i64 x1] = T11 x0 x1 := by kernel_rfl

/-- wharfage/wharfageref10.SweepEntries -/
def T12 (x0 : Sl) (x1 : Int) : T :=
 .dcall (true) 16 [.slice x0.a x0.len x0.cap] .bool <| fun (r0 : Bool) =>
  .dcall (!!r0) 32 [.int .i64 x1] .bool <| fun (r1 : Bool) =>
   .cond (bif !r0 then true else !r1) (
    .ret (.tuple #[.slice none (0) (0), .slice none (0) (0), .int .i64 ((1600 : Int))])) (
    .loop (.pair .slice (.pair .slice (.pair (.int .i64) .unit))) (⟨none, 0, 0⟩, (⟨none, 0, 0⟩, ((0 : Int), ()))) <| fun (v2 : (Sl × (Sl × (Int × Unit)))) =>
     .cond (decide (v2.2.2.1 < (↑x0.len : Int))) (
      .must (true = true → (0 : Int) ≤ v2.2.2.1 ∧ v2.2.2.1 < (↑x0.len : Int) ∧ x0.a.isSome = true) <|
      .load (true) S25 ((x0.a.getD { block := 0, off := 0 }).add (v2.2.2.1.toNat * 9)) <| fun (m3 : D25) =>
       .dcall (true) 28 [S25.enc m3, .int .i64 x1] .bool <| fun (r4 : Bool) =>
        .cond (r4) (
         .must (true = true → (0 : Int) ≤ v2.2.2.1 ∧ v2.2.2.1 < (↑x0.len : Int) ∧ x0.a.isSome = true) <|
         .load (true) S25 ((x0.a.getD { block := 0, off := 0 }).add (v2.2.2.1.toNat * 9)) <| fun (m5 : D25) =>
          .lit (true) [.int .i64 m5.1.1, .int .i64 m5.1.2.1, .int .i64 m5.1.2.2.1, .int .i64 m5.1.2.2.2.1, .int .i64 m5.1.2.2.2.2, .int .i64 m5.2.1, .bool m5.2.2.1, .int .i64 m5.2.2.2.1, .int .i64 m5.2.2.2.2] 26 <| fun (n6 : Nat) =>
           .append 26 9 72 v2.2.1 ⟨(some ⟨n6, 0, none⟩), 1, 1⟩ <| fun (q7 : Sl) =>
            .again (.pair .slice (.pair .slice (.pair (.int .i64) .unit))) (v2.1, (q7, (IntKind.i64.wrap (v2.2.2.1 + (1 : Int)), ())))) (
         .must (true = true → (0 : Int) ≤ v2.2.2.1 ∧ v2.2.2.1 < (↑x0.len : Int) ∧ x0.a.isSome = true) <|
         .load (true) S25 ((x0.a.getD { block := 0, off := 0 }).add (v2.2.2.1.toNat * 9)) <| fun (m5 : D25) =>
          .lit (true) [.int .i64 m5.1.1, .int .i64 m5.1.2.1, .int .i64 m5.1.2.2.1, .int .i64 m5.1.2.2.2.1, .int .i64 m5.1.2.2.2.2, .int .i64 m5.2.1, .bool m5.2.2.1, .int .i64 m5.2.2.2.1, .int .i64 m5.2.2.2.2] 26 <| fun (n6 : Nat) =>
           .append 26 9 72 v2.1 ⟨(some ⟨n6, 0, none⟩), 1, 1⟩ <| fun (q7 : Sl) =>
            .again (.pair .slice (.pair .slice (.pair (.int .i64) .unit))) (q7, (v2.2.1, (IntKind.i64.wrap (v2.2.2.1 + (1 : Int)), ()))))) (
      .pop <|
      .ret (.tuple #[.slice v2.1.a v2.1.len v2.1.cap, .slice v2.2.1.a v2.2.1.len v2.2.1.cap, .int .i64 ((0 : Int))])))
noncomputable def fx12 : Fx := { loops := fun n => match n with | 5 => ⟨[.slot 7 (.slice), .slot 8 (.slice), .slot 9 ((.int .i64))], [0, 1], []⟩ | _ => ⟨[], [], []⟩, esc := fun n => memN n [], own := fun n => memN n [] }
theorem T12_eq (x0 : Sl) (x1 : Int) : evFn cx fx12 Try.f12 [.slice x0.a x0.len x0.cap, .int .i64 x1] = T12 x0 x1 := by kernel_rfl

/-- wharfage/wharfagelaw0.SameEntrys -/
def T13 (x0 : Sl) (x1 : Sl) : T :=
 .cond ((↑x0.len : Int) != (↑x1.len : Int)) (
  .ret (.bool false)) (
  .loop (.pair (.int .i64) .unit) ((0 : Int), ()) <| fun (v0 : (Int × Unit)) =>
   .cond (decide (v0.1 < (↑x0.len : Int))) (
    .must (true = true → (0 : Int) ≤ v0.1 ∧ v0.1 < (↑x0.len : Int) ∧ x0.a.isSome = true) <|
    .load (true) S25 ((x0.a.getD { block := 0, off := 0 }).add (v0.1.toNat * 9)) <| fun (m1 : D25) =>
     .must (true = true → (0 : Int) ≤ v0.1 ∧ v0.1 < (↑x1.len : Int) ∧ x1.a.isSome = true) <|
     .load (true) S25 ((x1.a.getD { block := 0, off := 0 }).add (v0.1.toNat * 9)) <| fun (m2 : D25) =>
      .cond (!eqDen S25 m1 m2) (
       .pop <|
       .ret (.bool false)) (
       .again (.pair (.int .i64) .unit) (IntKind.i64.wrap (v0.1 + (1 : Int)), ()))) (
    .pop <|
    .ret (.bool true)))
noncomputable def fx13 : Fx := { loops := fun n => match n with | 4 => ⟨[.slot 5 ((.int .i64))], [0, 1], []⟩ | _ => ⟨[], [], []⟩, esc := fun n => memN n [], own := fun n => memN n [6] }
theorem T13_eq (x0 : Sl) (x1 : Sl) : evFn cx fx13 Try.f13 [.slice x0.a x0.len x0.cap, .slice x1.a x1.len x1.cap] = T13 x0 x1 := by kernel_rfl

/-- wharfage/wharfagelaw0.Num -/
def T14 (x0 : Int) : T :=
 .ret (.int .i64 x0)
noncomputable def fx14 : Fx := { loops := fun _ => ⟨[], [], []⟩, esc := fun n => memN n [], own := fun n => memN n [] }
theorem T14_eq (x0 : Int) : evFn cx fx14 Try.f14 [.int .i64 x0] = T14 x0 := by kernel_rfl

/-- wharfage/cache.May -/
def T15 (x0 : Sl) : T :=
 .loop (.pair (.int .i64) .unit) ((0 : Int), ()) <| fun (v0 : (Int × Unit)) =>
  .cond (decide (v0.1 < (↑x0.len : Int))) (
   .must (true = true → (0 : Int) ≤ v0.1 ∧ v0.1 < (↑x0.len : Int) ∧ x0.a.isSome = true) <|
   .load (true) S25 ((x0.a.getD { block := 0, off := 0 }).add (v0.1.toNat * 9)) <| fun (m1 : D25) =>
    .dcall (true) 21 [S25.enc m1] .bool <| fun (r2 : Bool) =>
     .dcall (!!r2) 26 [.slice x0.a x0.len x0.cap, S23.enc m1.1] (.int .i64) <| fun (r3 : Int) =>
      .cond (bif !r2 then true else r3 != v0.1) (
       .pop <|
       .ret (.bool false)) (
       .again (.pair (.int .i64) .unit) (IntKind.i64.wrap (v0.1 + (1 : Int)), ()))) (
   .pop <|
   .ret (.bool (decide ((↑x0.len : Int) ≤ (8 : Int)))))
noncomputable def fx15 : Fx := { loops := fun n => match n with | 2 => ⟨[.slot 7 ((.int .i64))], [0, 5, 6], []⟩ | _ => ⟨[], [], []⟩, esc := fun n => memN n [], own := fun n => memN n [] }
theorem T15_eq (x0 : Sl) : evFn cx fx15 Try.f15 [.slice x0.a x0.len x0.cap] = T15 x0 := by kernel_rfl

/-- wharfage/wharfageref10.CacheMay -/
def T16 (x0 : Sl) : T :=
 .loop (.pair (.int .i64) .unit) ((0 : Int), ()) <| fun (v0 : (Int × Unit)) =>
  .cond (decide (v0.1 < (↑x0.len : Int))) (
   .must (true = true → (0 : Int) ≤ v0.1 ∧ v0.1 < (↑x0.len : Int) ∧ x0.a.isSome = true) <|
   .load (true) S25 ((x0.a.getD { block := 0, off := 0 }).add (v0.1.toNat * 9)) <| fun (m1 : D25) =>
    .dcall (true) 24 [S25.enc m1] .bool <| fun (r2 : Bool) =>
     .cond (!r2) (
      .pop <|
      .ret (.bool false)) (
      .loop (.pair (.int .i64) .unit) ((0 : Int), ()) <| fun (v3 : (Int × Unit)) =>
       .cond (decide (v3.1 < v0.1)) (
        .must (true = true → (0 : Int) ≤ v3.1 ∧ v3.1 < (↑x0.len : Int) ∧ x0.a.isSome = true) <|
        .load (true) S23 (((x0.a.getD { block := 0, off := 0 }).add (v3.1.toNat * 9)).add (0)) <| fun (m4 : D23) =>
         .must (true = true → (0 : Int) ≤ v0.1 ∧ v0.1 < (↑x0.len : Int) ∧ x0.a.isSome = true) <|
         .load (true) S23 (((x0.a.getD { block := 0, off := 0 }).add (v0.1.toNat * 9)).add (0)) <| fun (m5 : D23) =>
          .cond (eqDen S23 m4 m5) (
           .pop <|
           .pop <|
           .ret (.bool false)) (
           .again (.pair (.int .i64) .unit) (IntKind.i64.wrap (v3.1 + (1 : Int)), ()))) (
        .pop <|
        .again (.pair (.int .i64) .unit) (IntKind.i64.wrap (v0.1 + (1 : Int)), ())))) (
   .pop <|
   .ret (.bool (decide ((↑x0.len : Int) ≤ (8 : Int)))))
noncomputable def fx16 : Fx := { loops := fun n => match n with | 2 => ⟨[.slot 3 ((.int .i64))], [0], []⟩ | 7 => ⟨[.slot 4 ((.int .i64))], [0, 3], []⟩ | _ => ⟨[], [], []⟩, esc := fun n => memN n [], own := fun n => memN n [9] }
theorem T16_eq (x0 : Sl) : evFn cx fx16 Try.f16 [.slice x0.a x0.len x0.cap] = T16 x0 := by kernel_rfl

/-- wharfage/wharfagelaw0.SpoilEntrys -/
def T17 (x0 : Sl) : T :=
 .loop (.pair (.int .i64) .unit) ((0 : Int), ()) <| fun (v0 : (Int × Unit)) =>
  .cond (decide (v0.1 < (↑x0.len : Int))) (
   .must (true = true → (0 : Int) ≤ v0.1 ∧ v0.1 < (↑x0.len : Int) ∧ x0.a.isSome = true) <|
   .load (true) (.int .i64) (((x0.a.getD { block := 0, off := 0 }).add (v0.1.toNat * 9)).add (5)) <| fun (m1 : Int) =>
    .must (true = true → (0 : Int) ≤ v0.1 ∧ v0.1 < (↑x0.len : Int) ∧ x0.a.isSome = true) <|
    .store (((x0.a.getD { block := 0, off := 0 }).add (v0.1.toNat * 9)).add (5)) [.int .i64 (bitsI BinOp.xor IntKind.i64 m1 (90 : Int))] <|
    .again (.pair (.int .i64) .unit) (IntKind.i64.wrap (v0.1 + (1 : Int)), ())) (
   .pop <|
   .ret (.tuple #[]))
noncomputable def fx17 : Fx := { loops := fun n => match n with | 1 => ⟨[.slot 2 ((.int .i64))], [0], []⟩ | _ => ⟨[], [], []⟩, esc := fun n => memN n [], own := fun n => memN n [] }
theorem T17_eq (x0 : Sl) : evFn cx fx17 Try.f17 [.slice x0.a x0.len x0.cap] = T17 x0 := by kernel_rfl

/-- wharfage/wharfagelaw0.KeptEntrys -/
def T18 (x0 : Sl) (x1 : Sl) : T :=
 .must (true = true → ((0 : Int) ≤ IntKind.i64.wrap ((↑x0.len : Int) + (2 : Int)) ∧ IntKind.i64.wrap ((↑x0.len : Int) + (2 : Int)) ≤ (↑x0.cap : Int)) ∧ True) <|
 .dcall (true) 13 [.slice x0.a x0.len x0.cap, .slice x1.a x1.len x1.cap] .bool <| fun (r0 : Bool) =>
  .must (r0 = true → (0 : Int) ≤ (↑x1.len : Int) ∧ (↑x1.len : Int) < (↑((IntKind.i64.wrap ((↑x0.len : Int) + (2 : Int))).toNat - 0) : Int) ∧ (if x0.cap = 0 then x0.a else Option.map (fun x => x.add (0 * 9)) x0.a).isSome = true) <|
  .load (r0) S25 (((if x0.cap = 0 then x0.a else Option.map (fun x => x.add (0 * 9)) x0.a).getD { block := 0, off := 0 }).add ((↑x1.len : Int).toNat * 9)) <| fun (m1 : D25) =>
   .must ((bif r0 then eqDen S25 m1 (((0 : Int), (0 : Int), (0 : Int), (0 : Int), (0 : Int)), (77777 : Int), false, (0 : Int), (0 : Int)) else false) = true → (0 : Int) ≤ IntKind.i64.wrap ((↑x1.len : Int) + (1 : Int)) ∧ IntKind.i64.wrap ((↑x1.len : Int) + (1 : Int)) < (↑((IntKind.i64.wrap ((↑x0.len : Int) + (2 : Int))).toNat - 0) : Int) ∧ (if x0.cap = 0 then x0.a else Option.map (fun x => x.add (0 * 9)) x0.a).isSome = true) <|
   .load (bif r0 then eqDen S25 m1 (((0 : Int), (0 : Int), (0 : Int), (0 : Int), (0 : Int)), (77777 : Int), false, (0 : Int), (0 : Int)) else false) S25 (((if x0.cap = 0 then x0.a else Option.map (fun x => x.add (0 * 9)) x0.a).getD { block := 0, off := 0 }).add ((IntKind.i64.wrap ((↑x1.len : Int) + (1 : Int))).toNat * 9)) <| fun (m2 : D25) =>
    .ret (.bool (bif bif r0 then eqDen S25 m1 (((0 : Int), (0 : Int), (0 : Int), (0 : Int), (0 : Int)), (77777 : Int), false, (0 : Int), (0 : Int)) else false then eqDen S25 m2 (((0 : Int), (0 : Int), (0 : Int), (0 : Int), (0 : Int)), (77777 : Int), false, (0 : Int), (0 : Int)) else false))
noncomputable def fx18 : Fx := { loops := fun _ => ⟨[], [], []⟩, esc := fun n => memN n [], own := fun n => memN n [] }
theorem T18_eq (x0 : Sl) (x1 : Sl) : evFn cx fx18 Try.f18 [.slice x0.a x0.len x0.cap, .slice x1.a x1.len x1.cap] = T18 x0 x1 := by kernel_rfl

/-- wharfage/wharfagelaw0.CopyEntrys -/
def T20 (x0 : Sl) : T :=
 .lit (true) [] 26 <| fun (n0 : Nat) =>
  .append 26 9 72 ⟨(some ⟨n0, 0, none⟩), 0, 0⟩ x0 <| fun (q1 : Sl) =>
   .ret (.slice q1.a q1.len q1.cap)
noncomputable def fx20 : Fx := { loops := fun _ => ⟨[], [], []⟩, esc := fun n => memN n [], own := fun n => memN n [] }
theorem T20_eq (x0 : Sl) : evFn cx fx20 Try.f20 [.slice x0.a x0.len x0.cap] = T20 x0 := by kernel_rfl

/-- wharfage/entry.May -/
def T21 (x0 : D25) : T :=
 .dcall (true) 34 [S23.enc x0.1] .bool <| fun (r0 : Bool) =>
  .dcall (r0) 35 [.int .i64 x0.2.1, .int .i64 ((8 : Int))] .bool <| fun (r1 : Bool) =>
   .dcall (bif r0 then r1 else false) 36 [.int .i64 x0.2.2.2.1] .bool <| fun (r2 : Bool) =>
    .dcall (bif bif r0 then r1 else false then r2 else false) 30 [.int .i64 x0.2.2.2.2] .bool <| fun (r3 : Bool) =>
     .ret (.bool (bif bif bif r0 then r1 else false then r2 else false then r3 else false))
noncomputable def fx21 : Fx := { loops := fun _ => ⟨[], [], []⟩, esc := fun n => memN n [], own := fun n => memN n [] }
theorem T21_eq (x0 : D25) : evFn cx fx21 Try.f21 [S25.enc x0] = T21 x0 := by kernel_rfl

/-- wharfage/cache.split[wharfage/api.Entry] -/
def T22a (x0 : Sl) (p : Addr) : T :=
 .loop (.pair .slice (.pair .slice (.pair (.int .i64) .unit))) (⟨none, 0, 0⟩, (⟨none, 0, 0⟩, ((0 : Int), ()))) <| fun (v0 : (Sl × (Sl × (Int × Unit)))) =>
  .cond (decide (v0.2.2.1 < (↑x0.len : Int))) (
   .must (true = true → (0 : Int) ≤ v0.2.2.1 ∧ v0.2.2.1 < (↑x0.len : Int) ∧ x0.a.isSome = true) <|
   .load (true) S25 ((x0.a.getD { block := 0, off := 0 }).add (v0.2.2.1.toNat * 9)) <| fun (m1 : D25) =>
    .dcall (true) 23 [S25.enc m1, .pointer (some p)] .bool <| fun (r2 : Bool) =>
     .cond (r2) (
      .lit (true) [.int .i64 m1.1.1, .int .i64 m1.1.2.1, .int .i64 m1.1.2.2.1, .int .i64 m1.1.2.2.2.1, .int .i64 m1.1.2.2.2.2, .int .i64 m1.2.1, .bool m1.2.2.1, .int .i64 m1.2.2.2.1, .int .i64 m1.2.2.2.2] 26 <| fun (n3 : Nat) =>
       .append 26 9 72 v0.1 ⟨(some ⟨n3, 0, none⟩), 1, 1⟩ <| fun (q4 : Sl) =>
        .again (.pair .slice (.pair .slice (.pair (.int .i64) .unit))) (q4, (v0.2.1, (IntKind.i64.wrap (v0.2.2.1 + (1 : Int)), ())))) (
      .lit (true) [.int .i64 m1.1.1, .int .i64 m1.1.2.1, .int .i64 m1.1.2.2.1, .int .i64 m1.1.2.2.2.1, .int .i64 m1.1.2.2.2.2, .int .i64 m1.2.1, .bool m1.2.2.1, .int .i64 m1.2.2.2.1, .int .i64 m1.2.2.2.2] 26 <| fun (n3 : Nat) =>
       .append 26 9 72 v0.2.1 ⟨(some ⟨n3, 0, none⟩), 1, 1⟩ <| fun (q4 : Sl) =>
        .again (.pair .slice (.pair .slice (.pair (.int .i64) .unit))) (v0.1, (q4, (IntKind.i64.wrap (v0.2.2.1 + (1 : Int)), ()))))) (
   .pop <|
   .ret (.tuple #[.slice v0.1.a v0.1.len v0.1.cap, .slice v0.2.1.a v0.2.1.len v0.2.1.cap]))
noncomputable def fx22a : Fx := { loops := fun n => match n with | 2 => ⟨[.slot 4 (.slice), .slot 5 (.slice), .slot 10 ((.int .i64))], [1, 8, 9], []⟩ | _ => ⟨[], [], []⟩, esc := fun n => memN n [], own := fun n => memN n [] }
theorem T22a_eq (x0 : Sl) (p : Addr) : evFn cx fx22a Try.f22 [.slice x0.a x0.len x0.cap, .func (.func 23) #[] #[.pointer (some p)]] = T22a x0 p := by kernel_rfl

/-- wharfage/cache.split[wharfage/api.Entry] -/
def T22b (x0 : Sl) (p : Addr) : T :=
 .loop (.pair .slice (.pair .slice (.pair (.int .i64) .unit))) (⟨none, 0, 0⟩, (⟨none, 0, 0⟩, ((0 : Int), ()))) <| fun (v0 : (Sl × (Sl × (Int × Unit)))) =>
  .cond (decide (v0.2.2.1 < (↑x0.len : Int))) (
   .must (true = true → (0 : Int) ≤ v0.2.2.1 ∧ v0.2.2.1 < (↑x0.len : Int) ∧ x0.a.isSome = true) <|
   .load (true) S25 ((x0.a.getD { block := 0, off := 0 }).add (v0.2.2.1.toNat * 9)) <| fun (m1 : D25) =>
    .dcall (true) 29 [S25.enc m1, .pointer (some p)] .bool <| fun (r2 : Bool) =>
     .cond (r2) (
      .lit (true) [.int .i64 m1.1.1, .int .i64 m1.1.2.1, .int .i64 m1.1.2.2.1, .int .i64 m1.1.2.2.2.1, .int .i64 m1.1.2.2.2.2, .int .i64 m1.2.1, .bool m1.2.2.1, .int .i64 m1.2.2.2.1, .int .i64 m1.2.2.2.2] 26 <| fun (n3 : Nat) =>
       .append 26 9 72 v0.1 ⟨(some ⟨n3, 0, none⟩), 1, 1⟩ <| fun (q4 : Sl) =>
        .again (.pair .slice (.pair .slice (.pair (.int .i64) .unit))) (q4, (v0.2.1, (IntKind.i64.wrap (v0.2.2.1 + (1 : Int)), ())))) (
      .lit (true) [.int .i64 m1.1.1, .int .i64 m1.1.2.1, .int .i64 m1.1.2.2.1, .int .i64 m1.1.2.2.2.1, .int .i64 m1.1.2.2.2.2, .int .i64 m1.2.1, .bool m1.2.2.1, .int .i64 m1.2.2.2.1, .int .i64 m1.2.2.2.2] 26 <| fun (n3 : Nat) =>
       .append 26 9 72 v0.2.1 ⟨(some ⟨n3, 0, none⟩), 1, 1⟩ <| fun (q4 : Sl) =>
        .again (.pair .slice (.pair .slice (.pair (.int .i64) .unit))) (v0.1, (q4, (IntKind.i64.wrap (v0.2.2.1 + (1 : Int)), ()))))) (
   .pop <|
   .ret (.tuple #[.slice v0.1.a v0.1.len v0.1.cap, .slice v0.2.1.a v0.2.1.len v0.2.1.cap]))
noncomputable def fx22b : Fx := { loops := fun n => match n with | 2 => ⟨[.slot 4 (.slice), .slot 5 (.slice), .slot 10 ((.int .i64))], [1, 8, 9], []⟩ | _ => ⟨[], [], []⟩, esc := fun n => memN n [], own := fun n => memN n [] }
theorem T22b_eq (x0 : Sl) (p : Addr) : evFn cx fx22b Try.f22 [.slice x0.a x0.len x0.cap, .func (.func 29) #[] #[.pointer (some p)]] = T22b x0 p := by kernel_rfl

/-- wharfage/cache.split[wharfage/api.Entry] -/
def T22c (x0 : Sl) (p : Addr) : T :=
 .loop (.pair .slice (.pair .slice (.pair (.int .i64) .unit))) (⟨none, 0, 0⟩, (⟨none, 0, 0⟩, ((0 : Int), ()))) <| fun (v0 : (Sl × (Sl × (Int × Unit)))) =>
  .cond (decide (v0.2.2.1 < (↑x0.len : Int))) (
   .must (true = true → (0 : Int) ≤ v0.2.2.1 ∧ v0.2.2.1 < (↑x0.len : Int) ∧ x0.a.isSome = true) <|
   .load (true) S25 ((x0.a.getD { block := 0, off := 0 }).add (v0.2.2.1.toNat * 9)) <| fun (m1 : D25) =>
    .dcall (true) 31 [S25.enc m1, .pointer (some p)] .bool <| fun (r2 : Bool) =>
     .cond (r2) (
      .lit (true) [.int .i64 m1.1.1, .int .i64 m1.1.2.1, .int .i64 m1.1.2.2.1, .int .i64 m1.1.2.2.2.1, .int .i64 m1.1.2.2.2.2, .int .i64 m1.2.1, .bool m1.2.2.1, .int .i64 m1.2.2.2.1, .int .i64 m1.2.2.2.2] 26 <| fun (n3 : Nat) =>
       .append 26 9 72 v0.1 ⟨(some ⟨n3, 0, none⟩), 1, 1⟩ <| fun (q4 : Sl) =>
        .again (.pair .slice (.pair .slice (.pair (.int .i64) .unit))) (q4, (v0.2.1, (IntKind.i64.wrap (v0.2.2.1 + (1 : Int)), ())))) (
      .lit (true) [.int .i64 m1.1.1, .int .i64 m1.1.2.1, .int .i64 m1.1.2.2.1, .int .i64 m1.1.2.2.2.1, .int .i64 m1.1.2.2.2.2, .int .i64 m1.2.1, .bool m1.2.2.1, .int .i64 m1.2.2.2.1, .int .i64 m1.2.2.2.2] 26 <| fun (n3 : Nat) =>
       .append 26 9 72 v0.2.1 ⟨(some ⟨n3, 0, none⟩), 1, 1⟩ <| fun (q4 : Sl) =>
        .again (.pair .slice (.pair .slice (.pair (.int .i64) .unit))) (v0.1, (q4, (IntKind.i64.wrap (v0.2.2.1 + (1 : Int)), ()))))) (
   .pop <|
   .ret (.tuple #[.slice v0.1.a v0.1.len v0.1.cap, .slice v0.2.1.a v0.2.1.len v0.2.1.cap]))
noncomputable def fx22c : Fx := { loops := fun n => match n with | 2 => ⟨[.slot 4 (.slice), .slot 5 (.slice), .slot 10 ((.int .i64))], [1, 8, 9], []⟩ | _ => ⟨[], [], []⟩, esc := fun n => memN n [], own := fun n => memN n [] }
theorem T22c_eq (x0 : Sl) (p : Addr) : evFn cx fx22c Try.f22 [.slice x0.a x0.len x0.cap, .func (.func 31) #[] #[.pointer (some p)]] = T22c x0 p := by kernel_rfl

/-- wharfage/cache.Put$1 -/
def T23 (x0 : D25) (c0 : Addr) : T :=
 .load (true) S23 (c0.add (0)) <| fun (m0 : D23) =>
  .ret (.bool (eqDen S23 x0.1 m0))
noncomputable def fx23 : Fx := { loops := fun _ => ⟨[], [], []⟩, esc := fun n => memN n [], own := fun n => memN n [] }
theorem T23_eq (x0 : D25) (c0 : Addr) : evFn cx fx23 Try.f23 [S25.enc x0, .pointer (some c0)] = T23 x0 c0 := by kernel_rfl

/-- wharfage/wharfageref10.EntryMay -/
def T24 (x0 : D25) : T :=
 .dcall (true) 37 [S23.enc x0.1] .bool <| fun (r0 : Bool) =>
  .dcall (bif bif r0 then decide (x0.2.1 ≥ (0 : Int)) else false then decide (x0.2.1 ≤ (255 : Int)) else false) 38 [.int .i64 x0.2.2.2.1] .bool <| fun (r1 : Bool) =>
   .dcall (bif bif bif r0 then decide (x0.2.1 ≥ (0 : Int)) else false then decide (x0.2.1 ≤ (255 : Int)) else false then r1 else false) 32 [.int .i64 x0.2.2.2.2] .bool <| fun (r2 : Bool) =>
    .ret (.bool (bif bif bif bif r0 then decide (x0.2.1 ≥ (0 : Int)) else false then decide (x0.2.1 ≤ (255 : Int)) else false then r1 else false then r2 else false))
noncomputable def fx24 : Fx := { loops := fun _ => ⟨[], [], []⟩, esc := fun n => memN n [], own := fun n => memN n [] }
theorem T24_eq (x0 : D25) : evFn cx fx24 Try.f24 [S25.enc x0] = T24 x0 := by kernel_rfl

/-- wharfage/wharfageref10.without -/
def T25 (x0 : Sl) (x1 : D23) : T :=
 .loop (.pair .slice (.pair (.int .i64) .unit)) (⟨none, 0, 0⟩, ((0 : Int), ())) <| fun (v0 : (Sl × (Int × Unit))) =>
  .cond (decide (v0.2.1 < (↑x0.len : Int))) (
   .must (true = true → (0 : Int) ≤ v0.2.1 ∧ v0.2.1 < (↑x0.len : Int) ∧ x0.a.isSome = true) <|
   .load (true) S23 (((x0.a.getD { block := 0, off := 0 }).add (v0.2.1.toNat * 9)).add (0)) <| fun (m1 : D23) =>
    .cond (!eqDen S23 m1 x1) (
     .must (true = true → (0 : Int) ≤ v0.2.1 ∧ v0.2.1 < (↑x0.len : Int) ∧ x0.a.isSome = true) <|
     .load (true) S25 ((x0.a.getD { block := 0, off := 0 }).add (v0.2.1.toNat * 9)) <| fun (m2 : D25) =>
      .lit (true) [.int .i64 m2.1.1, .int .i64 m2.1.2.1, .int .i64 m2.1.2.2.1, .int .i64 m2.1.2.2.2.1, .int .i64 m2.1.2.2.2.2, .int .i64 m2.2.1, .bool m2.2.2.1, .int .i64 m2.2.2.2.1, .int .i64 m2.2.2.2.2] 26 <| fun (n3 : Nat) =>
       .append 26 9 72 v0.1 ⟨(some ⟨n3, 0, none⟩), 1, 1⟩ <| fun (q4 : Sl) =>
        .again (.pair .slice (.pair (.int .i64) .unit)) (q4, (IntKind.i64.wrap (v0.2.1 + (1 : Int)), ()))) (
     .again (.pair .slice (.pair (.int .i64) .unit)) (v0.1, (IntKind.i64.wrap (v0.2.1 + (1 : Int)), ())))) (
   .pop <|
   .ret (.slice v0.1.a v0.1.len v0.1.cap))
noncomputable def fx25 : Fx := { loops := fun n => match n with | 3 => ⟨[.slot 5 (.slice), .slot 6 ((.int .i64))], [0, 3], [0]⟩ | _ => ⟨[], [], []⟩, esc := fun n => memN n [], own := fun n => memN n [5] }
theorem T25_eq (x0 : Sl) (x1 : D23) : evFn cx fx25 Try.f25 [.slice x0.a x0.len x0.cap, S23.enc x1] = T25 x0 x1 := by kernel_rfl

/-- wharfage/cache.at -/
def T26 (x0 : Sl) (x1 : D23) : T :=
 .new [.int .i64 x1.1, .int .i64 x1.2.1, .int .i64 x1.2.2.1, .int .i64 x1.2.2.2.1, .int .i64 x1.2.2.2.2] 24 <| fun (n0 : Nat) =>
  .dcall (true) 39 [.slice x0.a x0.len x0.cap, .func (.func 40) #[] #[.pointer (some ⟨n0, 0, none⟩)]] (.int .i64) <| fun (r1 : Int) =>
   .ret (.int .i64 r1)
noncomputable def fx26 : Fx := { loops := fun _ => ⟨[], [], []⟩, esc := fun n => memN n [3], own := fun n => memN n [] }
theorem T26_eq (x0 : Sl) (x1 : D23) : evFn cx fx26 Try.f26 [.slice x0.a x0.len x0.cap, S23.enc x1] = T26 x0 x1 := by kernel_rfl

/-- wharfage/entry.Ran -/
def T27 (x0 : D25) (x1 : Int) : T :=
 .dcall (true) 41 [.int .i64 x0.2.2.2.1] (.tup (.pair (.int .i64) (.int .i64))) <| fun (r0 : (Int × Int)) =>
  .dcall (true) 21 [S25.enc x0] .bool <| fun (r1 : Bool) =>
   .ret (.bool (bif !r1 then true else decide (x1 ≥ IntKind.i64.wrap (x0.2.2.2.2 + r0.1))))
noncomputable def fx27 : Fx := { loops := fun _ => ⟨[], [], []⟩, esc := fun n => memN n [], own := fun n => memN n [] }
theorem T27_eq (x0 : D25) (x1 : Int) : evFn cx fx27 Try.f27 [S25.enc x0, .int .i64 x1] = T27 x0 x1 := by kernel_rfl

/-- wharfage/wharfageref10.Ran -/
def T28 (x0 : D25) (x1 : Int) : T :=
 .dcall (true) 24 [S25.enc x0] .bool <| fun (r0 : Bool) =>
  .cond (!r0) (
   .ret (.bool true)) (
   .dcall (true) 42 [.int .i64 x0.2.2.2.1] (.tup (.pair (.int .i64) (.int .i64))) <| fun (r1 : (Int × Int)) =>
    .ret (.bool (bif decide (x1 ≥ (0 : Int)) then decide (IntKind.i64.wrap (x1 - x0.2.2.2.2) ≥ r1.1) else false)))
noncomputable def fx28 : Fx := { loops := fun _ => ⟨[], [], []⟩, esc := fun n => memN n [], own := fun n => memN n [] }
theorem T28_eq (x0 : D25) (x1 : Int) : evFn cx fx28 Try.f28 [S25.enc x0, .int .i64 x1] = T28 x0 x1 := by kernel_rfl

/-- wharfage/cache.Drop$1 -/
def T29 (x0 : D25) (c0 : Addr) : T :=
 .load (true) S23 (c0) <| fun (m0 : D23) =>
  .ret (.bool (eqDen S23 x0.1 m0))
noncomputable def fx29 : Fx := { loops := fun _ => ⟨[], [], []⟩, esc := fun n => memN n [], own := fun n => memN n [] }
theorem T29_eq (x0 : D25) (c0 : Addr) : evFn cx fx29 Try.f29 [S25.enc x0, .pointer (some c0)] = T29 x0 c0 := by kernel_rfl

/-- wharfage/conf.Time -/
def T30 (x0 : Int) : T :=
 .dcall (true) 43 [.int .i64 x0, .int .i64 ((1048576 : Int))] .bool <| fun (r0 : Bool) =>
  .ret (.bool r0)
noncomputable def fx30 : Fx := { loops := fun _ => ⟨[], [], []⟩, esc := fun n => memN n [], own := fun n => memN n [] }
theorem T30_eq (x0 : Int) : evFn cx fx30 Try.f30 [.int .i64 x0] = T30 x0 := by kernel_rfl

/-- wharfage/cache.Sweep$1 -/
def T31 (x0 : D25) (c0 : Addr) : T :=
 .load (true) (.int .i64) (c0) <| fun (m0 : Int) =>
  .dcall (true) 27 [S25.enc x0, .int .i64 m0] .bool <| fun (r1 : Bool) =>
   .ret (.bool r1)
noncomputable def fx31 : Fx := { loops := fun _ => ⟨[], [], []⟩, esc := fun n => memN n [], own := fun n => memN n [] }
theorem T31_eq (x0 : D25) (c0 : Addr) : evFn cx fx31 Try.f31 [S25.enc x0, .pointer (some c0)] = T31 x0 c0 := by kernel_rfl

/-- wharfage/wharfageref10.nowMay -/
def T32 (x0 : Int) : T :=
 .ret (.bool (bif decide (x0 ≥ (0 : Int)) then decide (x0 ≤ (1048576 : Int)) else false))
noncomputable def fx32 : Fx := { loops := fun _ => ⟨[], [], []⟩, esc := fun n => memN n [], own := fun n => memN n [] }
theorem T32_eq (x0 : Int) : evFn cx fx32 Try.f32 [.int .i64 x0] = T32 x0 := by kernel_rfl

/-- wharfage/wharfagelaw16.flow -/
def T33 (x0 : Int) : T :=
 .ret (.agg #[.int .i64 x0, .int .i64 ((167772161 : Int)), .int .i64 ((6 : Int)), .int .i64 ((7 : Int)), .int .i64 ((80 : Int))])
noncomputable def fx33 : Fx := { loops := fun _ => ⟨[], [], []⟩, esc := fun n => memN n [], own := fun n => memN n [] }
theorem T33_eq (x0 : Int) : evFn cx fx33 Try.f33 [.int .i64 x0] = T33 x0 := by kernel_rfl

/-- wharfage/flow.May -/
def T34 (x0 : D23) : T :=
 .dcall (true) 35 [.int .i64 x0.1, .int .i64 ((32 : Int))] .bool <| fun (r0 : Bool) =>
  .dcall (r0) 35 [.int .i64 x0.2.1, .int .i64 ((32 : Int))] .bool <| fun (r1 : Bool) =>
   .dcall (bif r0 then r1 else false) 44 [.int .i64 x0.2.2.1] .bool <| fun (r2 : Bool) =>
    .dcall (bif bif r0 then r1 else false then r2 else false) 35 [.int .i64 x0.2.2.2.1, .int .i64 ((16 : Int))] .bool <| fun (r3 : Bool) =>
     .dcall (bif bif bif r0 then r1 else false then r2 else false then r3 else false) 35 [.int .i64 x0.2.2.2.2, .int .i64 ((16 : Int))] .bool <| fun (r4 : Bool) =>
      .ret (.bool (bif bif bif bif r0 then r1 else false then r2 else false then r3 else false then r4 else false))
noncomputable def fx34 : Fx := { loops := fun _ => ⟨[], [], []⟩, esc := fun n => memN n [], own := fun n => memN n [] }
theorem T34_eq (x0 : D23) : evFn cx fx34 Try.f34 [S23.enc x0] = T34 x0 := by kernel_rfl

/-- wharfage/ip.In -/
def T35 (x0 : Int) (x1 : Int) : T :=
 .must (decide (x0 ≥ (0 : Int)) = true → (0 : Int) ≤ x1) <|
 .ret (.bool (bif decide (x0 ≥ (0 : Int)) then x0.fdiv ((2 : Int) ^ min x1.toNat IntKind.i64.bits) == (0 : Int) else false))
noncomputable def fx35 : Fx := { loops := fun _ => ⟨[], [], []⟩, esc := fun n => memN n [], own := fun n => memN n [] }
theorem T35_eq (x0 : Int) (x1 : Int) : evFn cx fx35 Try.f35 [.int .i64 x0, .int .i64 x1] = T35 x0 x1 := by kernel_rfl

/-- wharfage/track.May -/
def T36 (x0 : Int) : T :=
 .ret (.bool (bif decide (x0 ≥ (0 : Int)) then decide (x0 ≤ (2 : Int)) else false))
noncomputable def fx36 : Fx := { loops := fun _ => ⟨[], [], []⟩, esc := fun n => memN n [], own := fun n => memN n [] }
theorem T36_eq (x0 : Int) : evFn cx fx36 Try.f36 [.int .i64 x0] = T36 x0 := by kernel_rfl

/-- wharfage/wharfageref1.FlowMay -/
def T37 (x0 : D23) : T :=
 .dcall (true) 45 [.int .i64 x0.1, .int .i64 ((32 : Int))] .bool <| fun (r0 : Bool) =>
  .dcall (r0) 45 [.int .i64 x0.2.1, .int .i64 ((32 : Int))] .bool <| fun (r1 : Bool) =>
   .dcall (bif bif r0 then r1 else false then bif x0.2.2.1 == (6 : Int) then true else x0.2.2.1 == (17 : Int) else false) 45 [.int .i64 x0.2.2.2.1, .int .i64 ((16 : Int))] .bool <| fun (r2 : Bool) =>
    .dcall (bif bif bif r0 then r1 else false then bif x0.2.2.1 == (6 : Int) then true else x0.2.2.1 == (17 : Int) else false then r2 else false) 45 [.int .i64 x0.2.2.2.2, .int .i64 ((16 : Int))] .bool <| fun (r3 : Bool) =>
     .ret (.bool (bif bif bif bif r0 then r1 else false then bif x0.2.2.1 == (6 : Int) then true else x0.2.2.1 == (17 : Int) else false then r2 else false then r3 else false))
noncomputable def fx37 : Fx := { loops := fun _ => ⟨[], [], []⟩, esc := fun n => memN n [], own := fun n => memN n [] }
theorem T37_eq (x0 : D23) : evFn cx fx37 Try.f37 [S23.enc x0] = T37 x0 := by kernel_rfl

/-- wharfage/wharfageref10.phaseMay -/
def T38 (x0 : Int) : T :=
 .ret (.bool (bif decide (x0 ≥ (0 : Int)) then decide (x0 ≤ (2 : Int)) else false))
noncomputable def fx38 : Fx := { loops := fun _ => ⟨[], [], []⟩, esc := fun n => memN n [], own := fun n => memN n [] }
theorem T38_eq (x0 : Int) : evFn cx fx38 Try.f38 [.int .i64 x0] = T38 x0 := by kernel_rfl

/-- slices.IndexFunc[[]wharfage/api.Entry,wharfage/api.Entry] -/
def T39 (x0 : Sl) (p : Addr) : T :=
 .loop (.pair (.int .i64) .unit) ((0 : Int), ()) <| fun (v0 : (Int × Unit)) =>
  .cond (decide (v0.1 < (↑x0.len : Int))) (
   .must (true = true → (0 : Int) ≤ v0.1 ∧ v0.1 < (↑x0.len : Int) ∧ x0.a.isSome = true) <|
   .load (true) S25 ((x0.a.getD { block := 0, off := 0 }).add (v0.1.toNat * 9)) <| fun (m1 : D25) =>
    .dcall (true) 40 [S25.enc m1, .pointer (some p)] .bool <| fun (r2 : Bool) =>
     .cond (r2) (
      .pop <|
      .ret (.int .i64 v0.1)) (
      .again (.pair (.int .i64) .unit) (IntKind.i64.wrap (v0.1 + (1 : Int)), ()))) (
   .pop <|
   .ret (.int .i64 ((-1 : Int))))
noncomputable def fx39 : Fx := { loops := fun n => match n with | 2 => ⟨[.slot 8 ((.int .i64))], [0, 1, 7], []⟩ | _ => ⟨[], [], []⟩, esc := fun n => memN n [], own := fun n => memN n [] }
theorem T39_eq (x0 : Sl) (p : Addr) : evFn cx fx39 Try.f39 [.slice x0.a x0.len x0.cap, .func (.func 40) #[] #[.pointer (some p)]] = T39 x0 p := by kernel_rfl

/-- wharfage/cache.at$1 -/
def T40 (x0 : D25) (c0 : Addr) : T :=
 .load (true) S23 (c0) <| fun (m0 : D23) =>
  .ret (.bool (eqDen S23 x0.1 m0))
noncomputable def fx40 : Fx := { loops := fun _ => ⟨[], [], []⟩, esc := fun n => memN n [], own := fun n => memN n [] }
theorem T40_eq (x0 : D25) (c0 : Addr) : evFn cx fx40 Try.f40 [S25.enc x0, .pointer (some c0)] = T40 x0 c0 := by kernel_rfl

/-- wharfage/track.Limit -/
def T41 (x0 : Int) : T :=
 .dcall (true) 36 [.int .i64 x0] .bool <| fun (r0 : Bool) =>
  .cond (!r0) (
   .ret (.tuple #[.int .i64 ((0 : Int)), .int .i64 ((1400 : Int))])) (
   .cond (x0 == (0 : Int)) (
    .ret (.tuple #[.int .i64 ((40 : Int)), .int .i64 ((0 : Int))])) (
    .ret (.tuple #[.int .i64 ((6 : Int)), .int .i64 ((0 : Int))])))
noncomputable def fx41 : Fx := { loops := fun _ => ⟨[], [], []⟩, esc := fun n => memN n [], own := fun n => memN n [] }
theorem T41_eq (x0 : Int) : evFn cx fx41 Try.f41 [.int .i64 x0] = T41 x0 := by kernel_rfl

/-- wharfage/wharfageref10.Limit -/
def T42 (x0 : Int) : T :=
 .dcall (true) 38 [.int .i64 x0] .bool <| fun (r0 : Bool) =>
  .cond (!r0) (
   .ret (.tuple #[.int .i64 ((0 : Int)), .int .i64 ((1400 : Int))])) (
   .cond (x0 == (0 : Int)) (
    .ret (.tuple #[.int .i64 ((40 : Int)), .int .i64 ((0 : Int))])) (
    .ret (.tuple #[.int .i64 ((6 : Int)), .int .i64 ((0 : Int))])))
noncomputable def fx42 : Fx := { loops := fun _ => ⟨[], [], []⟩, esc := fun n => memN n [], own := fun n => memN n [] }
theorem T42_eq (x0 : Int) : evFn cx fx42 Try.f42 [.int .i64 x0] = T42 x0 := by kernel_rfl

/-- wharfage/conf.to -/
def T43 (x0 : Int) (x1 : Int) : T :=
 .ret (.bool (bif decide (x0 ≥ (0 : Int)) then decide (x0 ≤ x1) else false))
noncomputable def fx43 : Fx := { loops := fun _ => ⟨[], [], []⟩, esc := fun n => memN n [], own := fun n => memN n [] }
theorem T43_eq (x0 : Int) (x1 : Int) : evFn cx fx43 Try.f43 [.int .i64 x0, .int .i64 x1] = T43 x0 x1 := by kernel_rfl

/-- wharfage/flow.handled -/
def T44 (x0 : Int) : T :=
 .ret (.bool (bif x0 == (6 : Int) then true else x0 == (17 : Int)))
noncomputable def fx44 : Fx := { loops := fun _ => ⟨[], [], []⟩, esc := fun n => memN n [], own := fun n => memN n [] }
theorem T44_eq (x0 : Int) : evFn cx fx44 Try.f44 [.int .i64 x0] = T44 x0 := by kernel_rfl

/-- wharfage/wharfageref1.within -/
def T45 (x0 : Int) (x1 : Int) : T :=
 .must (decide (x0 ≥ (0 : Int)) = true → (0 : Int) ≤ x1) <|
 .ret (.bool (bif decide (x0 ≥ (0 : Int)) then decide (x0 < IntKind.i64.wrap ((1 : Int) * (2 : Int) ^ min x1.toNat IntKind.i64.bits)) else false))
noncomputable def fx45 : Fx := { loops := fun _ => ⟨[], [], []⟩, esc := fun n => memN n [], own := fun n => memN n [] }
theorem T45_eq (x0 : Int) (x1 : Int) : evFn cx fx45 Try.f45 [.int .i64 x0, .int .i64 x1] = T45 x0 x1 := by kernel_rfl


end Go.Ev.Cache
