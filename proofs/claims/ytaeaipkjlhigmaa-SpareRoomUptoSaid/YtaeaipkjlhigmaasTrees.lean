/- The trees of this seat's functions: printed by this work's own program (wip/tools), each held against the evaluator by 'kernel_rfl'. -/
import Derived.Test.YtaeaipkjlhigmaasCx
set_option maxRecDepth 100000
set_option maxHeartbeats 0
set_option linter.unusedVariables false
namespace Go.Ev.Spare
open Go Go.Ev Go.Proofs

/-- type 23 -/
abbrev S23 : Sh := (.agg (.pair (.int .i64) .slice))
abbrev D23 : Type := (Int × Sl)
/-- type 28 -/
abbrev S28 : Sh := (.agg (.pair (.int .i64) (.pair (.agg (.pair (.int .i64) .slice)) (.pair .slice (.pair .slice (.pair .slice (.int .i64)))))))
abbrev D28 : Type := (Int × (D23 × (Sl × (Sl × (Sl × Int)))))
/-- type 47 -/
abbrev S47 : Sh := (.agg (.pair (.int .i64) (.pair (.int .i64) (.pair (.int .i64) (.pair (.int .i64) (.int .i64))))))
abbrev D47 : Type := (Int × (Int × (Int × (Int × Int))))
/-- type 49 -/
abbrev S49 : Sh := (.agg (.pair (.agg (.pair (.int .i64) (.pair (.int .i64) (.pair (.int .i64) (.pair (.int .i64) (.int .i64)))))) (.pair (.int .i64) (.pair .bool (.pair (.int .i64) (.int .i64))))))
abbrev D49 : Type := (D47 × (Int × (Bool × (Int × Int))))
/-- type 52 -/
abbrev S52 : Sh := (.agg (.pair (.int .i64) (.pair .bool (.pair (.int .i64) .slice))))
abbrev D52 : Type := (Int × (Bool × (Int × Sl)))
/-- type 69 -/
abbrev S69 : Sh := (.agg (.pair (.int .i64) (.int .i64)))
abbrev D69 : Type := (Int × Int)
/-- type 82 -/
abbrev S82 : Sh := (.agg (.pair (.int .i64) .bool))
abbrev D82 : Type := (Int × Bool)
/-- type 85 -/
abbrev S85 : Sh := (.agg (.pair .bool (.int .i64)))
abbrev D85 : Type := (Bool × Int)
/-- type 88 -/
abbrev S88 : Sh := (.agg (.pair (.int .i64) (.pair (.int .i64) (.pair (.int .i64) (.int .i64)))))
abbrev D88 : Type := (Int × (Int × (Int × Int)))
/-- type 90 -/
abbrev S90 : Sh := (.agg (.pair (.agg (.pair (.int .i64) (.pair (.int .i64) (.pair (.int .i64) (.int .i64))))) (.int .i64)))
abbrev D90 : Type := (D88 × Int)

/-- wharfage/wharfagelaw17.Spares -/
def T3 (x0 : D28) (x1 : Int) : T :=
 .call 5 [S28.enc x0] S28 <| fun (r0 : D28) =>
  .dcall (true) 6 [S28.enc r0] (.tup (.pair .bool (.int .i64))) <| fun (r1 : (Bool × Int)) =>
   .dcall (true) 7 [S28.enc x0] (.tup (.pair .bool (.int .i64))) <| fun (r2 : (Bool × Int)) =>
    .call 8 [S28.enc r0, .int .i64 x1] (.tup (.pair .slice (.int .i64))) <| fun (r3 : (Sl × Int)) =>
     .call 9 [S28.enc x0, .int .i64 x1] (.tup (.pair .slice (.int .i64))) <| fun (r4 : (Sl × Int)) =>
      .dcall (!!r1.1 == r2.1) 10 [.int .i64 r1.2] (.int .i64) <| fun (r5 : Int) =>
       .dcall (!bif !r1.1 == r2.1 then true else r5 != r2.2) 11 [.slice r3.1.a r3.1.len r3.1.cap, .slice r4.1.a r4.1.len r4.1.cap] .bool <| fun (r6 : Bool) =>
        .dcall (!bif bif !r1.1 == r2.1 then true else r5 != r2.2 then true else !r6) 10 [.int .i64 r3.2] (.int .i64) <| fun (r7 : Int) =>
         .cond (bif bif bif !r1.1 == r2.1 then true else r5 != r2.2 then true else !r6 then true else r7 != r4.2) (
          .ret (.bool false)) (
          .call 12 [.slice r3.1.a r3.1.len r3.1.cap] (.tup .unit) <| fun (r8 : Unit) =>
           .dcall (true) 13 [S28.enc r0, S28.enc x0] .bool <| fun (r9 : Bool) =>
            .dcall (r9) 14 [] .bool <| fun (r10 : Bool) =>
             .ret (.bool (bif r9 then r10 else false)))
noncomputable def fx3 : Fx := { loops := fun _ => ⟨[], [], []⟩, esc := fun n => memN n [], own := fun n => memN n [] }
theorem T3_eq (x0 : D28) (x1 : Int) : evFn cx fx3 Try.f3 [S28.enc x0, .int .i64 x1] = T3 x0 x1 := by kernel_rfl

/-- wharfage/wharfagelaw17.SpareRoom -/
def T4 (x0 : D28) : T :=
 .dcall (true) 14 [] .bool <| fun (r0 : Bool) =>
  .cond (!r0) (
   .ret (.bool false)) (
   .dcall (true) 6 [S28.enc x0] (.tup (.pair .bool (.int .i64))) <| fun (r1 : (Bool × Int)) =>
    .dcall (true) 10 [.int .i64 r1.2] (.int .i64) <| fun (r2 : Int) =>
     .cond (r2 != (0 : Int)) (
      .ret (.bool (!r1.1))) (
      .call 5 [S28.enc x0] S28 <| fun (r3 : D28) =>
       .dcall (true) 6 [.agg #[.int .i64 r3.1, .int .i64 r3.2.1.1, .slice r3.2.1.2.a r3.2.1.2.len r3.2.1.2.cap, .slice r3.2.2.1.a r3.2.2.1.len r3.2.2.1.cap, .slice r3.2.2.2.1.a r3.2.2.2.1.len r3.2.2.2.1.cap, .slice none (0) (0), .int .i64 r3.2.2.2.2.2]] (.tup (.pair .bool (.int .i64))) <| fun (r4 : (Bool × Int)) =>
        .dcall (true) 10 [.int .i64 r4.2] (.int .i64) <| fun (r5 : Int) =>
         .cond (bif r5 != (0 : Int) then true else bif r4.1 then !r1.1 else false) (
          .ret (.bool false)) (
          .cond (bif bif r4.1 then true else decide (x0.1 < (0 : Int)) then true else decide (x0.1 ≥ (↑x0.2.1.2.len : Int))) (
           .ret (.bool true)) (
           .loop (.pair (.int .i64) (.pair (.int .i64) .unit)) ((0 : Int), ((0 : Int), ())) <| fun (v6 : (Int × (Int × Unit))) =>
            .cond (decide (v6.2.1 < (↑x0.2.2.2.2.1.len : Int))) (
             .must (true = true → (0 : Int) ≤ v6.2.1 ∧ v6.2.1 < (↑x0.2.2.2.2.1.len : Int) ∧ x0.2.2.2.2.1.a.isSome = true) <|
             .load (true) .bool (((x0.2.2.2.2.1.a.getD { block := 0, off := 0 }).add (v6.2.1.toNat * 9)).add (6)) <| fun (m7 : Bool) =>
              .cond (!m7) (
               .again (.pair (.int .i64) (.pair (.int .i64) .unit)) (IntKind.i64.wrap (v6.1 + (1 : Int)), (IntKind.i64.wrap (v6.2.1 + (1 : Int)), ()))) (
               .again (.pair (.int .i64) (.pair (.int .i64) .unit)) (v6.1, (IntKind.i64.wrap (v6.2.1 + (1 : Int)), ())))) (
             .pop <|
             .must (true = true → (0 : Int) ≤ x0.1 ∧ x0.1 < (↑x0.2.1.2.len : Int) ∧ x0.2.1.2.a.isSome = true) <|
             .load (true) (.int .i64) (((x0.2.1.2.a.getD { block := 0, off := 0 }).add (x0.1.toNat * 4)).add (2)) <| fun (m7 : Int) =>
              .ret (.bool (r1.1 == decide (v6.1 ≥ m7))))))))
noncomputable def fx4 : Fx := { loops := fun n => match n with | 15 => ⟨[.slot 8 ((.int .i64)), .slot 9 ((.int .i64))], [1, 3], [0]⟩ | _ => ⟨[], [], []⟩, esc := fun n => memN n [], own := fun n => memN n [] }
theorem T4_eq (x0 : D28) : evFn cx fx4 Try.f4 [S28.enc x0] = T4 x0 := by kernel_rfl

/-- wharfage/spare.Full -/
def T6 (x0 : D28) : T :=
 .new [.int .i64 x0.1, .int .i64 x0.2.1.1, .slice x0.2.1.2.a x0.2.1.2.len x0.2.1.2.cap, .slice x0.2.2.1.a x0.2.2.1.len x0.2.2.1.cap, .slice x0.2.2.2.1.a x0.2.2.2.1.len x0.2.2.2.1.cap, .slice x0.2.2.2.2.1.a x0.2.2.2.2.1.len x0.2.2.2.2.1.cap, .int .i64 x0.2.2.2.2.2] 29 <| fun (n0 : Nat) =>
  .dcall (true) 16 [.pointer (some ⟨n0, 0, none⟩)] .bool <| fun (r1 : Bool) =>
   .cond (!r1) (
    .ret (.tuple #[.bool false, .int .i64 ((1700 : Int))])) (
    .load (true) (.int .i64) ((⟨n0, 0, none⟩ : Addr).add (0)) <| fun (m2 : Int) =>
     .call 17 [.pointer (some ((⟨n0, 0, none⟩ : Addr).add (1))), .int .i64 m2] (.tup (.pair S52 .bool)) <| fun (r3 : (D52 × Bool)) =>
      .load (true) S23 ((⟨n0, 0, none⟩ : Addr).add (1)) <| fun (m4 : D23) =>
       .load (true) (.int .i64) ((⟨n0, 0, none⟩ : Addr).add (0)) <| fun (m5 : Int) =>
        .load (true) .slice ((⟨n0, 0, none⟩ : Addr).add (3)) <| fun (m6 : Sl) =>
         .call 18 [S23.enc m4, .int .i64 m5, .slice m6.a m6.len m6.cap] (.tup (.pair .slice (.int .i64))) <| fun (r7 : (Sl × Int)) =>
          .dcall (!bif bif !r3.2 then true else r3.1.2.1 then true else (↑r7.1.len : Int) == (0 : Int)) 19 [.pointer (some ⟨n0, 0, none⟩)] (.int .i64) <| fun (r8 : Int) =>
           .ret (.tuple #[.bool (bif bif bif !r3.2 then true else r3.1.2.1 then true else (↑r7.1.len : Int) == (0 : Int) then true else decide (r8 ≥ r3.1.2.2.1)), .int .i64 ((0 : Int))]))
noncomputable def fx6 : Fx := { loops := fun _ => ⟨[], [], []⟩, esc := fun n => memN n [1], own := fun n => memN n [5] }
theorem T6_eq (x0 : D28) : evFn cx fx6 Try.f6 [S28.enc x0] = T6 x0 := by kernel_rfl

/-- wharfage/wharfageref10.Full -/
def T7 (x0 : D28) : T :=
 .dcall (true) 20 [S28.enc x0] .bool <| fun (r0 : Bool) =>
  .cond (!r0) (
   .ret (.tuple #[.bool false, .int .i64 ((1700 : Int))])) (
   .dcall (true) 21 [S23.enc x0.2.1, .int .i64 x0.1, .int .i64 ((-1 : Int))] .bool <| fun (r1 : Bool) =>
    .cond (!r1) (
     .ret (.tuple #[.bool true, .int .i64 ((0 : Int))])) (
     .must (true = true → (0 : Int) ≤ x0.1 ∧ x0.1 < (↑x0.2.1.2.len : Int) ∧ x0.2.1.2.a.isSome = true) <|
     .load (true) S52 ((x0.2.1.2.a.getD { block := 0, off := 0 }).add (x0.1.toNat * 4)) <| fun (m2 : D52) =>
      .call 22 [S23.enc x0.2.1, .int .i64 x0.1, .slice x0.2.2.1.a x0.2.2.1.len x0.2.2.1.cap] (.tup (.pair .slice (.int .i64))) <| fun (r3 : (Sl × Int)) =>
       .dcall (!bif m2.2.1 then true else (↑r3.1.len : Int) == (0 : Int)) 23 [S28.enc x0] (.int .i64) <| fun (r4 : Int) =>
        .ret (.tuple #[.bool (bif bif m2.2.1 then true else (↑r3.1.len : Int) == (0 : Int) then true else decide (r4 ≥ m2.2.2.1)), .int .i64 ((0 : Int))])))
noncomputable def fx7 : Fx := { loops := fun _ => ⟨[], [], []⟩, esc := fun n => memN n [], own := fun n => memN n [7] }
theorem T7_eq (x0 : D28) : evFn cx fx7 Try.f7 [S28.enc x0] = T7 x0 := by kernel_rfl

/-- wharfage/spare.Targets -/
def T8 (x0 : D28) (x1 : Int) : T :=
 .new [.int .i64 x0.1, .int .i64 x0.2.1.1, .slice x0.2.1.2.a x0.2.1.2.len x0.2.1.2.cap, .slice x0.2.2.1.a x0.2.2.1.len x0.2.2.1.cap, .slice x0.2.2.2.1.a x0.2.2.2.1.len x0.2.2.2.1.cap, .slice x0.2.2.2.2.1.a x0.2.2.2.2.1.len x0.2.2.2.2.1.cap, .int .i64 x0.2.2.2.2.2] 29 <| fun (n0 : Nat) =>
  .dcall (true) 16 [.pointer (some ⟨n0, 0, none⟩)] .bool <| fun (r1 : Bool) =>
   .dcall (!!r1) 24 [.int .i64 x1] .bool <| fun (r2 : Bool) =>
    .cond (bif !r1 then true else !r2) (
     .ret (.tuple #[.slice none (0) (0), .int .i64 ((1700 : Int))])) (
     .load (true) .slice (((⟨n0, 0, none⟩ : Addr).add (1)).add (1)) <| fun (m3 : Sl) =>
      .loop (.pair .slice (.pair (.int .i64) .unit)) (⟨none, 0, 0⟩, ((0 : Int), ())) <| fun (v4 : (Sl × (Int × Unit))) =>
       .cond (decide (v4.2.1 < (↑m3.len : Int))) (
        .must (true = true → (0 : Int) ≤ v4.2.1 ∧ v4.2.1 < (↑m3.len : Int) ∧ m3.a.isSome = true) <|
        .load (true) S52 ((m3.a.getD { block := 0, off := 0 }).add (v4.2.1.toNat * 4)) <| fun (m5 : D52) =>
         .load (true) .slice ((⟨n0, 0, none⟩ : Addr).add (4)) <| fun (m6 : Sl) =>
          .dcall (true) 25 [.slice m6.a m6.len m6.cap, .int .i64 v4.2.1, .int .i64 x1] (.tup (.pair (.int .i64) (.pair .bool (.int .i64)))) <| fun (r7 : (Int × (Bool × Int))) =>
           .load (true) (.int .i64) ((⟨n0, 0, none⟩ : Addr).add (0)) <| fun (m8 : Int) =>
            .cond (bif bif bif bif v4.2.1 != m8 then !m5.2.1 else false then decide (m5.1 > (0 : Int)) else false then r7.2.1 else false then decide (r7.1 > (0 : Int)) else false) (
             .lit (true) [.int .i64 v4.2.1, .int .i64 (min r7.1 (16 : Int))] 70 <| fun (n9 : Nat) =>
              .append 70 2 16 v4.1 ⟨(some ⟨n9, 0, none⟩), 1, 1⟩ <| fun (q10 : Sl) =>
               .again (.pair .slice (.pair (.int .i64) .unit)) (q10, (IntKind.i64.wrap (v4.2.1 + (1 : Int)), ()))) (
             .again (.pair .slice (.pair (.int .i64) .unit)) (v4.1, (IntKind.i64.wrap (v4.2.1 + (1 : Int)), ())))) (
        .pop <|
        .ret (.tuple #[.slice v4.1.a v4.1.len v4.1.cap, .int .i64 ((0 : Int))])))
noncomputable def fx8 : Fx := { loops := fun n => match n with | 5 => ⟨[.slot 6 (.slice), .slot 23 ((.int .i64))], [1, 2, 21, 22], []⟩ | _ => ⟨[], [], []⟩, esc := fun n => memN n [2], own := fun n => memN n [] }
theorem T8_eq (x0 : D28) (x1 : Int) : evFn cx fx8 Try.f8 [S28.enc x0, .int .i64 x1] = T8 x0 x1 := by kernel_rfl

/-- wharfage/wharfageref10.Targets -/
def T9 (x0 : D28) (x1 : Int) : T :=
 .dcall (true) 20 [S28.enc x0] .bool <| fun (r0 : Bool) =>
  .dcall (!!r0) 26 [.int .i64 x1] .bool <| fun (r1 : Bool) =>
   .cond (bif !r0 then true else !r1) (
    .ret (.tuple #[.slice none (0) (0), .int .i64 ((1700 : Int))])) (
    .loop (.pair .slice (.pair (.int .i64) .unit)) (⟨none, 0, 0⟩, ((0 : Int), ())) <| fun (v2 : (Sl × (Int × Unit))) =>
     .cond (decide (v2.2.1 < (↑x0.2.1.2.len : Int))) (
      .must (true = true → (0 : Int) ≤ v2.2.1 ∧ v2.2.1 < (↑x0.2.1.2.len : Int) ∧ x0.2.1.2.a.isSome = true) <|
      .load (true) S52 ((x0.2.1.2.a.getD { block := 0, off := 0 }).add (v2.2.1.toNat * 4)) <| fun (m3 : D52) =>
       .dcall (true) 27 [.slice x0.2.2.2.1.a x0.2.2.2.1.len x0.2.2.2.1.cap, .int .i64 v2.2.1, .int .i64 x1] (.tup (.pair (.int .i64) (.pair .bool (.int .i64)))) <| fun (r4 : (Int × (Bool × Int))) =>
        .cond (bif bif bif bif v2.2.1 != x0.1 then !m3.2.1 else false then decide (m3.1 > (0 : Int)) else false then r4.2.1 else false then decide (r4.1 > (0 : Int)) else false) (
         .lit (true) [.int .i64 v2.2.1, .int .i64 (min r4.1 (16 : Int))] 70 <| fun (n5 : Nat) =>
          .append 70 2 16 v2.1 ⟨(some ⟨n5, 0, none⟩), 1, 1⟩ <| fun (q6 : Sl) =>
           .again (.pair .slice (.pair (.int .i64) .unit)) (q6, (IntKind.i64.wrap (v2.2.1 + (1 : Int)), ()))) (
         .again (.pair .slice (.pair (.int .i64) .unit)) (v2.1, (IntKind.i64.wrap (v2.2.1 + (1 : Int)), ())))) (
      .pop <|
      .ret (.tuple #[.slice v2.1.a v2.1.len v2.1.cap, .int .i64 ((0 : Int))])))
noncomputable def fx9 : Fx := { loops := fun n => match n with | 5 => ⟨[.slot 6 (.slice), .slot 7 ((.int .i64))], [1, 2], [0]⟩ | _ => ⟨[], [], []⟩, esc := fun n => memN n [], own := fun n => memN n [] }
theorem T9_eq (x0 : D28) (x1 : Int) : evFn cx fx9 Try.f9 [S28.enc x0, .int .i64 x1] = T9 x0 x1 := by kernel_rfl

/-- wharfage/wharfagelaw0.Num -/
def T10 (x0 : Int) : T :=
 .ret (.int .i64 x0)
noncomputable def fx10 : Fx := { loops := fun _ => ⟨[], [], []⟩, esc := fun n => memN n [], own := fun n => memN n [] }
theorem T10_eq (x0 : Int) : evFn cx fx10 Try.f10 [.int .i64 x0] = T10 x0 := by kernel_rfl

/-- wharfage/wharfagelaw0.SameCandidates -/
def T11 (x0 : Sl) (x1 : Sl) : T :=
 .cond ((↑x0.len : Int) != (↑x1.len : Int)) (
  .ret (.bool false)) (
  .loop (.pair (.int .i64) .unit) ((0 : Int), ()) <| fun (v0 : (Int × Unit)) =>
   .cond (decide (v0.1 < (↑x0.len : Int))) (
    .must (true = true → (0 : Int) ≤ v0.1 ∧ v0.1 < (↑x0.len : Int) ∧ x0.a.isSome = true) <|
    .load (true) S69 ((x0.a.getD { block := 0, off := 0 }).add (v0.1.toNat * 2)) <| fun (m1 : D69) =>
     .must (true = true → (0 : Int) ≤ v0.1 ∧ v0.1 < (↑x1.len : Int) ∧ x1.a.isSome = true) <|
     .load (true) S69 ((x1.a.getD { block := 0, off := 0 }).add (v0.1.toNat * 2)) <| fun (m2 : D69) =>
      .cond (!eqDen S69 m1 m2) (
       .pop <|
       .ret (.bool false)) (
       .again (.pair (.int .i64) .unit) (IntKind.i64.wrap (v0.1 + (1 : Int)), ()))) (
    .pop <|
    .ret (.bool true)))
noncomputable def fx11 : Fx := { loops := fun n => match n with | 4 => ⟨[.slot 5 ((.int .i64))], [0, 1], []⟩ | _ => ⟨[], [], []⟩, esc := fun n => memN n [], own := fun n => memN n [6] }
theorem T11_eq (x0 : Sl) (x1 : Sl) : evFn cx fx11 Try.f11 [.slice x0.a x0.len x0.cap, .slice x1.a x1.len x1.cap] = T11 x0 x1 := by kernel_rfl

/-- wharfage/wharfagelaw0.SpoilCandidates -/
def T12 (x0 : Sl) : T :=
 .loop (.pair (.int .i64) .unit) ((0 : Int), ()) <| fun (v0 : (Int × Unit)) =>
  .cond (decide (v0.1 < (↑x0.len : Int))) (
   .must (true = true → (0 : Int) ≤ v0.1 ∧ v0.1 < (↑x0.len : Int) ∧ x0.a.isSome = true) <|
   .load (true) (.int .i64) (((x0.a.getD { block := 0, off := 0 }).add (v0.1.toNat * 2)).add (0)) <| fun (m1 : Int) =>
    .must (true = true → (0 : Int) ≤ v0.1 ∧ v0.1 < (↑x0.len : Int) ∧ x0.a.isSome = true) <|
    .store (((x0.a.getD { block := 0, off := 0 }).add (v0.1.toNat * 2)).add (0)) [.int .i64 (bitsI BinOp.xor IntKind.i64 m1 (90 : Int))] <|
    .again (.pair (.int .i64) .unit) (IntKind.i64.wrap (v0.1 + (1 : Int)), ())) (
   .pop <|
   .ret (.tuple #[]))
noncomputable def fx12 : Fx := { loops := fun n => match n with | 1 => ⟨[.slot 2 ((.int .i64))], [0], []⟩ | _ => ⟨[], [], []⟩, esc := fun n => memN n [], own := fun n => memN n [] }
theorem T12_eq (x0 : Sl) : evFn cx fx12 Try.f12 [.slice x0.a x0.len x0.cap] = T12 x0 := by kernel_rfl

/-- wharfage/wharfagelaw0.SameNode -/
def T13 (x0 : D28) (x1 : D28) : T :=
 .dcall (bif x0.1 == x1.1 then x0.2.2.2.2.2 == x1.2.2.2.2.2 else false) 28 [S23.enc x0.2.1, S23.enc x1.2.1] .bool <| fun (r0 : Bool) =>
  .dcall (bif bif x0.1 == x1.1 then x0.2.2.2.2.2 == x1.2.2.2.2.2 else false then r0 else false) 29 [.slice x0.2.2.1.a x0.2.2.1.len x0.2.2.1.cap, .slice x1.2.2.1.a x1.2.2.1.len x1.2.2.1.cap] .bool <| fun (r1 : Bool) =>
   .dcall (bif bif bif x0.1 == x1.1 then x0.2.2.2.2.2 == x1.2.2.2.2.2 else false then r0 else false then r1 else false) 30 [.slice x0.2.2.2.1.a x0.2.2.2.1.len x0.2.2.2.1.cap, .slice x1.2.2.2.1.a x1.2.2.2.1.len x1.2.2.2.1.cap] .bool <| fun (r2 : Bool) =>
    .dcall (bif bif bif bif x0.1 == x1.1 then x0.2.2.2.2.2 == x1.2.2.2.2.2 else false then r0 else false then r1 else false then r2 else false) 31 [.slice x0.2.2.2.2.1.a x0.2.2.2.2.1.len x0.2.2.2.2.1.cap, .slice x1.2.2.2.2.1.a x1.2.2.2.2.1.len x1.2.2.2.2.1.cap] .bool <| fun (r3 : Bool) =>
     .ret (.bool (bif bif bif bif bif x0.1 == x1.1 then x0.2.2.2.2.2 == x1.2.2.2.2.2 else false then r0 else false then r1 else false then r2 else false then r3 else false))
noncomputable def fx13 : Fx := { loops := fun _ => ⟨[], [], []⟩, esc := fun n => memN n [], own := fun n => memN n [] }
theorem T13_eq (x0 : D28) (x1 : D28) : evFn cx fx13 Try.f13 [S28.enc x0, S28.enc x1] = T13 x0 x1 := by kernel_rfl

/-- wharfage/wharfagelaw17.awake -/
def T14  : T :=
 .call 32 [] S28 <| fun (r0 : D28) =>
  .dcall (true) 6 [S28.enc r0] (.tup (.pair .bool (.int .i64))) <| fun (r1 : (Bool × Int)) =>
   .call 8 [S28.enc r0, .int .i64 ((9 : Int))] (.tup (.pair .slice (.int .i64))) <| fun (r2 : (Sl × Int)) =>
    .call 8 [S28.enc r0, .int .i64 ((15 : Int))] (.tup (.pair .slice (.int .i64))) <| fun (r3 : (Sl × Int)) =>
     .lit (true) [.int .i64 ((0 : Int)), .int .i64 ((0 : Int)), .int .i64 ((17 : Int)), .int .i64 ((0 : Int)), .int .i64 ((0 : Int)), .int .i64 ((0 : Int)), .bool false, .int .i64 ((0 : Int)), .int .i64 ((0 : Int))] 50 <| fun (n4 : Nat) =>
      .dcall (true) 6 [.agg #[.int .i64 r0.1, .int .i64 r0.2.1.1, .slice r0.2.1.2.a r0.2.1.2.len r0.2.1.2.cap, .slice r0.2.2.1.a r0.2.2.1.len r0.2.2.1.cap, .slice r0.2.2.2.1.a r0.2.2.2.1.len r0.2.2.2.1.cap, .slice (some ⟨n4, 0, none⟩) (1) (1), .int .i64 r0.2.2.2.2.2]] (.tup (.pair .bool (.int .i64))) <| fun (r5 : (Bool × Int)) =>
       .dcall (true) 6 [.agg #[.int .i64 ((0 : Int)), .int .i64 ((0 : Int)), .slice none (0) (0), .slice none (0) (0), .slice none (0) (0), .slice none (0) (0), .int .i64 ((0 : Int))]] (.tup (.pair .bool (.int .i64))) <| fun (r6 : (Bool × Int)) =>
        .call 8 [.agg #[.int .i64 r0.1, .int .i64 r0.2.1.1, .slice r0.2.1.2.a r0.2.1.2.len r0.2.1.2.cap, .slice r0.2.2.1.a r0.2.2.1.len r0.2.2.1.cap, .slice r0.2.2.2.1.a r0.2.2.2.1.len r0.2.2.2.1.cap, .slice (some ⟨n4, 0, none⟩) (1) (1), .int .i64 r0.2.2.2.2.2], .int .i64 ((-1 : Int))] (.tup (.pair .slice (.int .i64))) <| fun (r7 : (Sl × Int)) =>
         .dcall (!r1.1) 10 [.int .i64 r1.2] (.int .i64) <| fun (r8 : Int) =>
          .lit (bif !r1.1 then r8 == (0 : Int) else false) [.int .i64 ((1 : Int)), .int .i64 ((3 : Int))] 70 <| fun (n9 : Nat) =>
           .dcall (bif !r1.1 then r8 == (0 : Int) else false) 11 [.slice r2.1.a r2.1.len r2.1.cap, .slice (some ⟨n9, 0, none⟩) (1) (1)] .bool <| fun (r10 : Bool) =>
            .dcall (bif bif !r1.1 then r8 == (0 : Int) else false then r10 else false) 10 [.int .i64 r2.2] (.int .i64) <| fun (r11 : Int) =>
             .dcall (bif bif bif bif !r1.1 then r8 == (0 : Int) else false then r10 else false then r11 == (0 : Int) else false then (↑r3.1.len : Int) == (0 : Int) else false) 10 [.int .i64 r3.2] (.int .i64) <| fun (r12 : Int) =>
              .dcall (bif bif bif bif bif bif !r1.1 then r8 == (0 : Int) else false then r10 else false then r11 == (0 : Int) else false then (↑r3.1.len : Int) == (0 : Int) else false then r12 == (0 : Int) else false then r5.1 else false) 10 [.int .i64 r5.2] (.int .i64) <| fun (r13 : Int) =>
               .dcall (bif bif bif bif bif bif bif !r1.1 then r8 == (0 : Int) else false then r10 else false then r11 == (0 : Int) else false then (↑r3.1.len : Int) == (0 : Int) else false then r12 == (0 : Int) else false then r5.1 else false then r13 == (0 : Int) else false) 10 [.int .i64 r6.2] (.int .i64) <| fun (r14 : Int) =>
                .dcall (bif bif bif bif bif bif bif bif !r1.1 then r8 == (0 : Int) else false then r10 else false then r11 == (0 : Int) else false then (↑r3.1.len : Int) == (0 : Int) else false then r12 == (0 : Int) else false then r5.1 else false then r13 == (0 : Int) else false then r14 == (1700 : Int) else false) 10 [.int .i64 r7.2] (.int .i64) <| fun (r15 : Int) =>
                 .ret (.bool (bif bif bif bif bif bif bif bif bif !r1.1 then r8 == (0 : Int) else false then r10 else false then r11 == (0 : Int) else false then (↑r3.1.len : Int) == (0 : Int) else false then r12 == (0 : Int) else false then r5.1 else false then r13 == (0 : Int) else false then r14 == (1700 : Int) else false then r15 == (1700 : Int) else false))
noncomputable def fx14 : Fx := { loops := fun _ => ⟨[], [], []⟩, esc := fun n => memN n [], own := fun n => memN n [] }
theorem T14_eq  : evFn cx fx14 Try.f14 [] = T14  := by kernel_rfl

/-- wharfage/wharfagelaw0.CopyConfig -/
def T15 (x0 : D23) : T :=
 .loop (.pair (.int .i64) (.pair S23 .unit)) ((0 : Int), ((x0.1, ⟨none, 0, 0⟩), ())) <| fun (v0 : (Int × (D23 × Unit))) =>
  .cond (decide (v0.1 < (↑x0.2.len : Int))) (
   .must (true = true → (0 : Int) ≤ v0.1 ∧ v0.1 < (↑x0.2.len : Int) ∧ x0.2.a.isSome = true) <|
   .load (true) S52 ((x0.2.a.getD { block := 0, off := 0 }).add (v0.1.toNat * 4)) <| fun (m1 : D52) =>
    .lit (true) [] 83 <| fun (n2 : Nat) =>
     .append 83 2 16 ⟨(some ⟨n2, 0, none⟩), 0, 0⟩ m1.2.2.2 <| fun (q3 : Sl) =>
      .lit (true) [.int .i64 m1.1, .bool m1.2.1, .int .i64 m1.2.2.1, .slice q3.a q3.len q3.cap] 53 <| fun (n4 : Nat) =>
       .append 53 4 48 v0.2.1.2 ⟨(some ⟨n4, 0, none⟩), 1, 1⟩ <| fun (q5 : Sl) =>
        .again (.pair (.int .i64) (.pair S23 .unit)) (IntKind.i64.wrap (v0.1 + (1 : Int)), ((v0.2.1.1, q5), ()))) (
   .pop <|
   .ret (S23.enc v0.2.1))
noncomputable def fx15 : Fx := { loops := fun n => match n with | 3 => ⟨[.slot 4 ((.int .i64)), .box 2 (S23)], [1, 2, 3], [0, 1]⟩ | _ => ⟨[], [], []⟩, esc := fun n => memN n [], own := fun n => memN n [] }
theorem T15_eq (x0 : D23) : evFn cx fx15 Try.f15 [S23.enc x0] = T15 x0 := by kernel_rfl

/-- wharfage/spare.May -/
def T16 (x0 : Option Addr) : T :=
 .must (true = true → x0.isSome = true) <|
 .load (true) S23 ((x0.getD { block := 0, off := 0 }).add (1)) <| fun (m0 : D23) =>
  .dcall (true) 33 [S23.enc m0] .bool <| fun (r1 : Bool) =>
   .must (r1 = true → x0.isSome = true) <|
   .load (r1) (.int .i64) ((x0.getD { block := 0, off := 0 }).add (0)) <| fun (m2 : Int) =>
    .dcall (r1) 34 [.int .i64 m2] .bool <| fun (r3 : Bool) =>
     .must ((bif r1 then r3 else false) = true → x0.isSome = true) <|
     .load (bif r1 then r3 else false) .slice ((x0.getD { block := 0, off := 0 }).add (3)) <| fun (m4 : Sl) =>
      .dcall (bif r1 then r3 else false) 35 [.slice m4.a m4.len m4.cap, .int .i64 ((4 : Int))] .bool <| fun (r5 : Bool) =>
       .must ((bif bif r1 then r3 else false then r5 else false) = true → x0.isSome = true) <|
       .load (bif bif r1 then r3 else false then r5 else false) .slice ((x0.getD { block := 0, off := 0 }).add (4)) <| fun (m6 : Sl) =>
        .dcall (bif bif r1 then r3 else false then r5 else false) 36 [.slice m6.a m6.len m6.cap] .bool <| fun (r7 : Bool) =>
         .must ((bif bif bif r1 then r3 else false then r5 else false then r7 else false) = true → x0.isSome = true) <|
         .load (bif bif bif r1 then r3 else false then r5 else false then r7 else false) .slice ((x0.getD { block := 0, off := 0 }).add (5)) <| fun (m8 : Sl) =>
          .dcall (bif bif bif r1 then r3 else false then r5 else false then r7 else false) 37 [.slice m8.a m8.len m8.cap] .bool <| fun (r9 : Bool) =>
           .ret (.bool (bif bif bif bif r1 then r3 else false then r5 else false then r7 else false then r9 else false))
noncomputable def fx16 : Fx := { loops := fun _ => ⟨[], [], []⟩, esc := fun n => memN n [], own := fun n => memN n [] }
theorem T16_eq (x0 : Option Addr) : evFn cx fx16 Try.f16 [.pointer x0] = T16 x0 := by kernel_rfl

/-- wharfage/conf.Site -/
def T17 (x0 : Option Addr) (x1 : Int) : T :=
 .must ((!decide (x1 < (0 : Int))) = true → x0.isSome = true) <|
 .load (!decide (x1 < (0 : Int))) .slice ((x0.getD { block := 0, off := 0 }).add (1)) <| fun (m0 : Sl) =>
  .cond (bif decide (x1 < (0 : Int)) then true else decide (x1 ≥ (↑m0.len : Int))) (
   .ret (.tuple #[.agg #[.int .i64 ((0 : Int)), .bool false, .int .i64 ((0 : Int)), .slice none (0) (0)], .bool false])) (
   .must (true = true → x0.isSome = true) <|
   .load (true) .slice ((x0.getD { block := 0, off := 0 }).add (1)) <| fun (m1 : Sl) =>
    .must (true = true → (0 : Int) ≤ x1 ∧ x1 < (↑m1.len : Int) ∧ m1.a.isSome = true) <|
    .load (true) S52 ((m1.a.getD { block := 0, off := 0 }).add (x1.toNat * 4)) <| fun (m2 : D52) =>
     .ret (.tuple #[S52.enc m2, .bool true]))
noncomputable def fx17 : Fx := { loops := fun _ => ⟨[], [], []⟩, esc := fun n => memN n [], own := fun n => memN n [] }
theorem T17_eq (x0 : Option Addr) (x1 : Int) : evFn cx fx17 Try.f17 [.pointer x0, .int .i64 x1] = T17 x0 x1 := by kernel_rfl

/-- wharfage/cand.Backs -/
def T18 (x0 : D23) (x1 : Int) (x2 : Sl) : T :=
 .new [.int .i64 x0.1, .slice x0.2.a x0.2.len x0.2.cap] 24 <| fun (n0 : Nat) =>
  .call 17 [.pointer (some ⟨n0, 0, none⟩), .int .i64 x1] (.tup (.pair S52 .bool)) <| fun (r1 : (D52 × Bool)) =>
   .load (true) S23 (⟨n0, 0, none⟩ : Addr) <| fun (m2 : D23) =>
    .dcall (true) 33 [S23.enc m2] .bool <| fun (r3 : Bool) =>
     .dcall (!!r3) 35 [.slice x2.a x2.len x2.cap, .int .i64 ((4 : Int))] .bool <| fun (r4 : Bool) =>
      .cond (bif bif !r3 then true else !r4 then true else !r1.2) (
       .ret (.tuple #[.slice none (0) (0), .int .i64 ((1300 : Int))])) (
       .loop (.pair .slice (.pair (.int .i64) .unit)) (⟨none, 0, 0⟩, ((0 : Int), ())) <| fun (v5 : (Sl × (Int × Unit))) =>
        .cond (decide (v5.2.1 < (↑r1.1.2.2.2.len : Int))) (
         .must (true = true → (0 : Int) ≤ v5.2.1 ∧ v5.2.1 < (↑r1.1.2.2.2.len : Int) ∧ r1.1.2.2.2.a.isSome = true) <|
         .load (true) S82 ((r1.1.2.2.2.a.getD { block := 0, off := 0 }).add (v5.2.1.toNat * 2)) <| fun (m6 : D82) =>
          .must (true = true → (0 : Int) ≤ v5.2.1 ∧ v5.2.1 < (↑x2.len : Int) ∧ x2.a.isSome = true) <|
          .loadG (true) S85 ((x2.a.getD { block := 0, off := 0 }).add (v5.2.1.toNat * 2)) <| fun (m7 : D85) =>
           .call 38 [.slice v5.1.a v5.1.len v5.1.cap, .int .i64 v5.2.1, .int .i64 m6.1, .bool m6.2, S85.enc m7] .slice <| fun (r8 : Sl) =>
            .again (.pair .slice (.pair (.int .i64) .unit)) (r8, (IntKind.i64.wrap (v5.2.1 + (1 : Int)), ()))) (
         .pop <|
         .ret (.tuple #[.slice v5.1.a v5.1.len v5.1.cap, .int .i64 ((0 : Int))])))
noncomputable def fx18 : Fx := { loops := fun n => match n with | 6 => ⟨[.slot 10 (.slice), .slot 33 ((.int .i64))], [2, 31, 32], []⟩ | _ => ⟨[], [], []⟩, esc := fun n => memN n [3], own := fun n => memN n [] }
theorem T18_eq (x0 : D23) (x1 : Int) (x2 : Sl) : evFn cx fx18 Try.f18 [S23.enc x0, .int .i64 x1, .slice x2.a x2.len x2.cap] = T18 x0 x1 x2 := by kernel_rfl

/-- wharfage/spare.Load -/
def T19 (x0 : Option Addr) : T :=
 .must (true = true → x0.isSome = true) <|
 .load (true) .slice ((x0.getD { block := 0, off := 0 }).add (5)) <| fun (m0 : Sl) =>
  .loop (.pair (.int .i64) (.pair (.int .i64) .unit)) ((0 : Int), ((0 : Int), ())) <| fun (v1 : (Int × (Int × Unit))) =>
   .cond (decide (v1.2.1 < (↑m0.len : Int))) (
    .must (true = true → (0 : Int) ≤ v1.2.1 ∧ v1.2.1 < (↑m0.len : Int) ∧ m0.a.isSome = true) <|
    .load (true) S49 ((m0.a.getD { block := 0, off := 0 }).add (v1.2.1.toNat * 9)) <| fun (m2 : D49) =>
     .cond (!m2.2.2.1) (
      .again (.pair (.int .i64) (.pair (.int .i64) .unit)) (IntKind.i64.wrap (v1.1 + (1 : Int)), (IntKind.i64.wrap (v1.2.1 + (1 : Int)), ()))) (
      .again (.pair (.int .i64) (.pair (.int .i64) .unit)) (v1.1, (IntKind.i64.wrap (v1.2.1 + (1 : Int)), ())))) (
    .pop <|
    .ret (.int .i64 v1.1))
noncomputable def fx19 : Fx := { loops := fun n => match n with | 3 => ⟨[.slot 3 ((.int .i64)), .slot 11 ((.int .i64))], [9, 10], []⟩ | _ => ⟨[], [], []⟩, esc := fun n => memN n [], own := fun n => memN n [] }
theorem T19_eq (x0 : Option Addr) : evFn cx fx19 Try.f19 [.pointer x0] = T19 x0 := by kernel_rfl

/-- wharfage/wharfageref10.spareMay -/
def T20 (x0 : D28) : T :=
 .dcall (true) 39 [S23.enc x0.2.1] .bool <| fun (r0 : Bool) =>
  .dcall (bif bif r0 then decide (x0.1 ≥ (0 : Int)) else false then decide (x0.1 < (3 : Int)) else false) 40 [.slice x0.2.2.1.a x0.2.2.1.len x0.2.2.1.cap, .int .i64 ((4 : Int))] .bool <| fun (r1 : Bool) =>
   .dcall (bif bif bif r0 then decide (x0.1 ≥ (0 : Int)) else false then decide (x0.1 < (3 : Int)) else false then r1 else false) 41 [.slice x0.2.2.2.1.a x0.2.2.2.1.len x0.2.2.2.1.cap] .bool <| fun (r2 : Bool) =>
    .dcall (bif bif bif bif r0 then decide (x0.1 ≥ (0 : Int)) else false then decide (x0.1 < (3 : Int)) else false then r1 else false then r2 else false) 42 [.slice x0.2.2.2.2.1.a x0.2.2.2.2.1.len x0.2.2.2.2.1.cap] .bool <| fun (r3 : Bool) =>
     .ret (.bool (bif bif bif bif bif r0 then decide (x0.1 ≥ (0 : Int)) else false then decide (x0.1 < (3 : Int)) else false then r1 else false then r2 else false then r3 else false))
noncomputable def fx20 : Fx := { loops := fun _ => ⟨[], [], []⟩, esc := fun n => memN n [], own := fun n => memN n [] }
theorem T20_eq (x0 : D28) : evFn cx fx20 Try.f20 [S28.enc x0] = T20 x0 := by kernel_rfl

/-- wharfage/wharfageref10.BacksOf -/
def T22 (x0 : D23) (x1 : Int) (x2 : Sl) : T :=
 .dcall (true) 39 [S23.enc x0] .bool <| fun (r0 : Bool) =>
  .dcall (!!r0) 40 [.slice x2.a x2.len x2.cap, .int .i64 ((4 : Int))] .bool <| fun (r1 : Bool) =>
   .dcall (!bif !r0 then true else !r1) 21 [S23.enc x0, .int .i64 x1, .int .i64 ((-1 : Int))] .bool <| fun (r2 : Bool) =>
    .cond (bif bif !r0 then true else !r1 then true else !r2) (
     .ret (.tuple #[.slice none (0) (0), .int .i64 ((1300 : Int))])) (
     .must (true = true → (0 : Int) ≤ x1 ∧ x1 < (↑x0.2.len : Int) ∧ x0.2.a.isSome = true) <|
     .load (true) .slice (((x0.2.a.getD { block := 0, off := 0 }).add (x1.toNat * 4)).add (3)) <| fun (m3 : Sl) =>
      .loop (.pair .slice (.pair (.int .i64) .unit)) (⟨none, 0, 0⟩, ((0 : Int), ())) <| fun (v4 : (Sl × (Int × Unit))) =>
       .cond (decide (v4.2.1 < (↑m3.len : Int))) (
        .must (true = true → (0 : Int) ≤ v4.2.1 ∧ v4.2.1 < (↑x2.len : Int) ∧ x2.a.isSome = true) <|
        .load (true) .bool (((x2.a.getD { block := 0, off := 0 }).add (v4.2.1.toNat * 2)).add (0)) <| fun (m5 : Bool) =>
         .must (m5 = true → (0 : Int) ≤ v4.2.1 ∧ v4.2.1 < (↑m3.len : Int) ∧ m3.a.isSome = true) <|
         .load (m5) .bool (((m3.a.getD { block := 0, off := 0 }).add (v4.2.1.toNat * 2)).add (1)) <| fun (m6 : Bool) =>
          .must ((bif m5 then !m6 else false) = true → (0 : Int) ≤ v4.2.1 ∧ v4.2.1 < (↑m3.len : Int) ∧ m3.a.isSome = true) <|
          .load (bif m5 then !m6 else false) (.int .i64) (((m3.a.getD { block := 0, off := 0 }).add (v4.2.1.toNat * 2)).add (0)) <| fun (m7 : Int) =>
           .cond (bif bif m5 then !m6 else false then decide (m7 > (0 : Int)) else false) (
            .must (true = true → (0 : Int) ≤ v4.2.1 ∧ v4.2.1 < (↑m3.len : Int) ∧ m3.a.isSome = true) <|
            .load (true) (.int .i64) (((m3.a.getD { block := 0, off := 0 }).add (v4.2.1.toNat * 2)).add (0)) <| fun (m8 : Int) =>
             .lit (true) [.int .i64 v4.2.1, .int .i64 m8] 70 <| fun (n9 : Nat) =>
              .append 70 2 16 v4.1 ⟨(some ⟨n9, 0, none⟩), 1, 1⟩ <| fun (q10 : Sl) =>
               .again (.pair .slice (.pair (.int .i64) .unit)) (q10, (IntKind.i64.wrap (v4.2.1 + (1 : Int)), ()))) (
            .again (.pair .slice (.pair (.int .i64) .unit)) (v4.1, (IntKind.i64.wrap (v4.2.1 + (1 : Int)), ())))) (
        .pop <|
        .ret (.tuple #[.slice v4.1.a v4.1.len v4.1.cap, .int .i64 ((0 : Int))])))
noncomputable def fx22 : Fx := { loops := fun n => match n with | 6 => ⟨[.slot 8 (.slice), .slot 10 ((.int .i64))], [2, 9], []⟩ | _ => ⟨[], [], []⟩, esc := fun n => memN n [], own := fun n => memN n [] }
theorem T22_eq (x0 : D23) (x1 : Int) (x2 : Sl) : evFn cx fx22 Try.f22 [S23.enc x0, .int .i64 x1, .slice x2.a x2.len x2.cap] = T22 x0 x1 x2 := by kernel_rfl

/-- wharfage/wharfageref10.Load -/
def T23 (x0 : D28) : T :=
 .loop (.pair (.int .i64) (.pair (.int .i64) .unit)) ((0 : Int), ((0 : Int), ())) <| fun (v0 : (Int × (Int × Unit))) =>
  .cond (decide (v0.2.1 < (↑x0.2.2.2.2.1.len : Int))) (
   .must (true = true → (0 : Int) ≤ v0.2.1 ∧ v0.2.1 < (↑x0.2.2.2.2.1.len : Int) ∧ x0.2.2.2.2.1.a.isSome = true) <|
   .load (true) .bool (((x0.2.2.2.2.1.a.getD { block := 0, off := 0 }).add (v0.2.1.toNat * 9)).add (6)) <| fun (m1 : Bool) =>
    .cond (!m1) (
     .again (.pair (.int .i64) (.pair (.int .i64) .unit)) (IntKind.i64.wrap (v0.1 + (1 : Int)), (IntKind.i64.wrap (v0.2.1 + (1 : Int)), ()))) (
     .again (.pair (.int .i64) (.pair (.int .i64) .unit)) (v0.1, (IntKind.i64.wrap (v0.2.1 + (1 : Int)), ())))) (
   .pop <|
   .ret (.int .i64 v0.1))
noncomputable def fx23 : Fx := { loops := fun n => match n with | 3 => ⟨[.slot 3 ((.int .i64)), .slot 4 ((.int .i64))], [1], [0]⟩ | _ => ⟨[], [], []⟩, esc := fun n => memN n [], own := fun n => memN n [] }
theorem T23_eq (x0 : D28) : evFn cx fx23 Try.f23 [S28.enc x0] = T23 x0 := by kernel_rfl

/-- wharfage/conf.Time -/
def T24 (x0 : Int) : T :=
 .dcall (true) 43 [.int .i64 x0, .int .i64 ((1048576 : Int))] .bool <| fun (r0 : Bool) =>
  .ret (.bool r0)
noncomputable def fx24 : Fx := { loops := fun _ => ⟨[], [], []⟩, esc := fun n => memN n [], own := fun n => memN n [] }
theorem T24_eq (x0 : Int) : evFn cx fx24 Try.f24 [.int .i64 x0] = T24 x0 := by kernel_rfl

/-- wharfage/view.Spare -/
def T25 (x0 : Sl) (x1 : Int) (x2 : Int) : T :=
 .dcall (true) 36 [.slice x0.a x0.len x0.cap] .bool <| fun (r0 : Bool) =>
  .dcall (!!r0) 24 [.int .i64 x2] .bool <| fun (r1 : Bool) =>
   .dcall (!bif !r0 then true else !r1) 34 [.int .i64 x1] .bool <| fun (r2 : Bool) =>
    .cond (bif bif !r0 then true else !r1 then true else !r2) (
     .ret (.tuple #[.int .i64 ((0 : Int)), .bool false, .int .i64 ((1200 : Int))])) (
     .must (true = true → (0 : Int) ≤ x1 ∧ x1 < (↑x0.len : Int) ∧ x0.a.isSome = true) <|
     .load (true) S90 ((x0.a.getD { block := 0, off := 0 }).add (x1.toNat * 5)) <| fun (m3 : D90) =>
      .cond (bif bif m3.2 == (-1 : Int) then true else decide (IntKind.i64.wrap (x2 - m3.2) < (0 : Int)) then true else decide (IntKind.i64.wrap (x2 - m3.2) ≥ (10 : Int))) (
       .ret (.tuple #[.int .i64 ((0 : Int)), .bool false, .int .i64 ((0 : Int))])) (
       .ret (.tuple #[.int .i64 (max (IntKind.i64.wrap (m3.1.2.2.2 - m3.1.2.2.1)) (0 : Int)), .bool true, .int .i64 ((0 : Int))])))
noncomputable def fx25 : Fx := { loops := fun _ => ⟨[], [], []⟩, esc := fun n => memN n [], own := fun n => memN n [] }
theorem T25_eq (x0 : Sl) (x1 : Int) (x2 : Int) : evFn cx fx25 Try.f25 [.slice x0.a x0.len x0.cap, .int .i64 x1, .int .i64 x2] = T25 x0 x1 x2 := by kernel_rfl

/-- wharfage/wharfageref10.nowMay -/
def T26 (x0 : Int) : T :=
 .ret (.bool (bif decide (x0 ≥ (0 : Int)) then decide (x0 ≤ (1048576 : Int)) else false))
noncomputable def fx26 : Fx := { loops := fun _ => ⟨[], [], []⟩, esc := fun n => memN n [], own := fun n => memN n [] }
theorem T26_eq (x0 : Int) : evFn cx fx26 Try.f26 [.int .i64 x0] = T26 x0 := by kernel_rfl

/-- wharfage/wharfageref10.SpareOf -/
def T27 (x0 : Sl) (x1 : Int) (x2 : Int) : T :=
 .dcall (true) 41 [.slice x0.a x0.len x0.cap] .bool <| fun (r0 : Bool) =>
  .dcall (!!r0) 26 [.int .i64 x2] .bool <| fun (r1 : Bool) =>
   .cond (bif bif bif !r0 then true else !r1 then true else decide (x1 < (0 : Int)) then true else decide (x1 ≥ (3 : Int))) (
    .ret (.tuple #[.int .i64 ((0 : Int)), .bool false, .int .i64 ((1200 : Int))])) (
    .must (true = true → (0 : Int) ≤ x1 ∧ x1 < (↑x0.len : Int) ∧ x0.a.isSome = true) <|
    .load (true) S90 ((x0.a.getD { block := 0, off := 0 }).add (x1.toNat * 5)) <| fun (m2 : D90) =>
     .cond (bif bif decide (m2.2 < (0 : Int)) then true else decide (x2 < m2.2) then true else decide (IntKind.i64.wrap (x2 - m2.2) ≥ (10 : Int))) (
      .ret (.tuple #[.int .i64 ((0 : Int)), .bool false, .int .i64 ((0 : Int))])) (
      .ret (.tuple #[.int .i64 (max (0 : Int) (IntKind.i64.wrap (m2.1.2.2.2 - m2.1.2.2.1))), .bool true, .int .i64 ((0 : Int))])))
noncomputable def fx27 : Fx := { loops := fun _ => ⟨[], [], []⟩, esc := fun n => memN n [], own := fun n => memN n [] }
theorem T27_eq (x0 : Sl) (x1 : Int) (x2 : Int) : evFn cx fx27 Try.f27 [.slice x0.a x0.len x0.cap, .int .i64 x1, .int .i64 x2] = T27 x0 x1 x2 := by kernel_rfl

/-- wharfage/wharfagelaw0.SameHealths -/
def T29 (x0 : Sl) (x1 : Sl) : T :=
 .cond ((↑x0.len : Int) != (↑x1.len : Int)) (
  .ret (.bool false)) (
  .loop (.pair (.int .i64) .unit) ((0 : Int), ()) <| fun (v0 : (Int × Unit)) =>
   .cond (decide (v0.1 < (↑x0.len : Int))) (
    .must (true = true → (0 : Int) ≤ v0.1 ∧ v0.1 < (↑x0.len : Int) ∧ x0.a.isSome = true) <|
    .load (true) S85 ((x0.a.getD { block := 0, off := 0 }).add (v0.1.toNat * 2)) <| fun (m1 : D85) =>
     .must (true = true → (0 : Int) ≤ v0.1 ∧ v0.1 < (↑x1.len : Int) ∧ x1.a.isSome = true) <|
     .load (true) S85 ((x1.a.getD { block := 0, off := 0 }).add (v0.1.toNat * 2)) <| fun (m2 : D85) =>
      .cond (!eqDen S85 m1 m2) (
       .pop <|
       .ret (.bool false)) (
       .again (.pair (.int .i64) .unit) (IntKind.i64.wrap (v0.1 + (1 : Int)), ()))) (
    .pop <|
    .ret (.bool true)))
noncomputable def fx29 : Fx := { loops := fun n => match n with | 4 => ⟨[.slot 5 ((.int .i64))], [0, 1], []⟩ | _ => ⟨[], [], []⟩, esc := fun n => memN n [], own := fun n => memN n [6] }
theorem T29_eq (x0 : Sl) (x1 : Sl) : evFn cx fx29 Try.f29 [.slice x0.a x0.len x0.cap, .slice x1.a x1.len x1.cap] = T29 x0 x1 := by kernel_rfl

/-- wharfage/wharfagelaw0.SameSeens -/
def T30 (x0 : Sl) (x1 : Sl) : T :=
 .cond ((↑x0.len : Int) != (↑x1.len : Int)) (
  .ret (.bool false)) (
  .loop (.pair (.int .i64) .unit) ((0 : Int), ()) <| fun (v0 : (Int × Unit)) =>
   .cond (decide (v0.1 < (↑x0.len : Int))) (
    .must (true = true → (0 : Int) ≤ v0.1 ∧ v0.1 < (↑x0.len : Int) ∧ x0.a.isSome = true) <|
    .load (true) S90 ((x0.a.getD { block := 0, off := 0 }).add (v0.1.toNat * 5)) <| fun (m1 : D90) =>
     .must (true = true → (0 : Int) ≤ v0.1 ∧ v0.1 < (↑x1.len : Int) ∧ x1.a.isSome = true) <|
     .load (true) S90 ((x1.a.getD { block := 0, off := 0 }).add (v0.1.toNat * 5)) <| fun (m2 : D90) =>
      .cond (!eqDen S90 m1 m2) (
       .pop <|
       .ret (.bool false)) (
       .again (.pair (.int .i64) .unit) (IntKind.i64.wrap (v0.1 + (1 : Int)), ()))) (
    .pop <|
    .ret (.bool true)))
noncomputable def fx30 : Fx := { loops := fun n => match n with | 4 => ⟨[.slot 5 ((.int .i64))], [0, 1], []⟩ | _ => ⟨[], [], []⟩, esc := fun n => memN n [], own := fun n => memN n [6] }
theorem T30_eq (x0 : Sl) (x1 : Sl) : evFn cx fx30 Try.f30 [.slice x0.a x0.len x0.cap, .slice x1.a x1.len x1.cap] = T30 x0 x1 := by kernel_rfl

/-- wharfage/wharfagelaw0.SameEntrys -/
def T31 (x0 : Sl) (x1 : Sl) : T :=
 .cond ((↑x0.len : Int) != (↑x1.len : Int)) (
  .ret (.bool false)) (
  .loop (.pair (.int .i64) .unit) ((0 : Int), ()) <| fun (v0 : (Int × Unit)) =>
   .cond (decide (v0.1 < (↑x0.len : Int))) (
    .must (true = true → (0 : Int) ≤ v0.1 ∧ v0.1 < (↑x0.len : Int) ∧ x0.a.isSome = true) <|
    .load (true) S49 ((x0.a.getD { block := 0, off := 0 }).add (v0.1.toNat * 9)) <| fun (m1 : D49) =>
     .must (true = true → (0 : Int) ≤ v0.1 ∧ v0.1 < (↑x1.len : Int) ∧ x1.a.isSome = true) <|
     .load (true) S49 ((x1.a.getD { block := 0, off := 0 }).add (v0.1.toNat * 9)) <| fun (m2 : D49) =>
      .cond (!eqDen S49 m1 m2) (
       .pop <|
       .ret (.bool false)) (
       .again (.pair (.int .i64) .unit) (IntKind.i64.wrap (v0.1 + (1 : Int)), ()))) (
    .pop <|
    .ret (.bool true)))
noncomputable def fx31 : Fx := { loops := fun n => match n with | 4 => ⟨[.slot 5 ((.int .i64))], [0, 1], []⟩ | _ => ⟨[], [], []⟩, esc := fun n => memN n [], own := fun n => memN n [6] }
theorem T31_eq (x0 : Sl) (x1 : Sl) : evFn cx fx31 Try.f31 [.slice x0.a x0.len x0.cap, .slice x1.a x1.len x1.cap] = T31 x0 x1 := by kernel_rfl

/-- wharfage/wharfagelaw17.node -/
def T32  : T :=
 .lit (true) [.int .i64 ((1 : Int)), .bool false] 83 <| fun (n0 : Nat) =>
  .lit (true) [.int .i64 ((1 : Int)), .bool false] 83 <| fun (n1 : Nat) =>
   .lit (true) [.int .i64 ((2 : Int)), .bool false, .int .i64 ((1 : Int)), .slice (some ⟨n0, 0, none⟩) (1) (1), .int .i64 ((1 : Int)), .bool false, .int .i64 ((4 : Int)), .slice (some ⟨n1, 0, none⟩) (1) (1)] 53 <| fun (n2 : Nat) =>
    .call 45 [] .slice <| fun (r3 : Sl) =>
     .must (true = true → (0 : Int) ≤ (1 : Int) ∧ (1 : Int) < (↑r3.len : Int) ∧ r3.a.isSome = true) <|
     .store ((r3.a.getD { block := 0, off := 0 }).add (Int.toNat (1 : Int) * 5)) [.int .i64 ((1 : Int)), .int .i64 ((1 : Int)), .int .i64 ((1 : Int)), .int .i64 ((4 : Int)), .int .i64 ((5 : Int))] <|
     .call 46 [.int .i64 ((4 : Int))] .slice <| fun (r4 : Sl) =>
      .ret (.agg #[.int .i64 ((0 : Int)), .int .i64 ((3 : Int)), .slice (some ⟨n2, 0, none⟩) (2) (2), .slice r4.a r4.len r4.cap, .slice r3.a r3.len r3.cap, .slice none (0) (0), .int .i64 ((0 : Int))])
noncomputable def fx32 : Fx := { loops := fun _ => ⟨[], [], []⟩, esc := fun n => memN n [], own := fun n => memN n [] }
theorem T32_eq  : evFn cx fx32 Try.f32 [] = T32  := by kernel_rfl

/-- wharfage/conf.May -/
def T33 (x0 : D23) : T :=
 .loop (.pair (.int .i64) .unit) ((0 : Int), ()) <| fun (v0 : (Int × Unit)) =>
  .cond (decide (v0.1 < (↑x0.2.len : Int))) (
   .must (true = true → (0 : Int) ≤ v0.1 ∧ v0.1 < (↑x0.2.len : Int) ∧ x0.2.a.isSome = true) <|
   .dcall (true) 47 [.pointer (some ((x0.2.a.getD { block := 0, off := 0 }).add (v0.1.toNat * 4)))] .bool <| fun (r1 : Bool) =>
    .cond (!r1) (
     .pop <|
     .ret (.bool false)) (
     .again (.pair (.int .i64) .unit) (IntKind.i64.wrap (v0.1 + (1 : Int)), ()))) (
   .pop <|
   .dcall (true) 24 [.int .i64 x0.1] .bool <| fun (r1 : Bool) =>
    .ret (.bool (bif r1 then decide ((↑x0.2.len : Int) ≤ (3 : Int)) else false)))
noncomputable def fx33 : Fx := { loops := fun n => match n with | 2 => ⟨[.slot 7 ((.int .i64))], [1, 6], [0]⟩ | _ => ⟨[], [], []⟩, esc := fun n => memN n [], own := fun n => memN n [] }
theorem T33_eq (x0 : D23) : evFn cx fx33 Try.f33 [S23.enc x0] = T33 x0 := by kernel_rfl

/-- wharfage/report.Site -/
def T34 (x0 : Int) : T :=
 .ret (.bool (bif decide (x0 ≥ (0 : Int)) then decide (x0 < (3 : Int)) else false))
noncomputable def fx34 : Fx := { loops := fun _ => ⟨[], [], []⟩, esc := fun n => memN n [], own := fun n => memN n [] }
theorem T34_eq (x0 : Int) : evFn cx fx34 Try.f34 [.int .i64 x0] = T34 x0 := by kernel_rfl

/-- wharfage/health.All -/
def T35 (x0 : Sl) (x1 : Int) : T :=
 .loop (.pair (.int .i64) .unit) ((0 : Int), ()) <| fun (v0 : (Int × Unit)) =>
  .cond (decide (v0.1 < (↑x0.len : Int))) (
   .must (true = true → (0 : Int) ≤ v0.1 ∧ v0.1 < (↑x0.len : Int) ∧ x0.a.isSome = true) <|
   .load (true) S85 ((x0.a.getD { block := 0, off := 0 }).add (v0.1.toNat * 2)) <| fun (m1 : D85) =>
    .dcall (true) 48 [S85.enc m1] .bool <| fun (r2 : Bool) =>
     .cond (!r2) (
      .pop <|
      .ret (.bool false)) (
      .again (.pair (.int .i64) .unit) (IntKind.i64.wrap (v0.1 + (1 : Int)), ()))) (
   .pop <|
   .ret (.bool ((↑x0.len : Int) == x1)))
noncomputable def fx35 : Fx := { loops := fun n => match n with | 2 => ⟨[.slot 9 ((.int .i64))], [0, 1, 7, 8], []⟩ | _ => ⟨[], [], []⟩, esc := fun n => memN n [], own := fun n => memN n [] }
theorem T35_eq (x0 : Sl) (x1 : Int) : evFn cx fx35 Try.f35 [.slice x0.a x0.len x0.cap, .int .i64 x1] = T35 x0 x1 := by kernel_rfl

/-- wharfage/cache.May -/
def T37 (x0 : Sl) : T :=
 .loop (.pair (.int .i64) .unit) ((0 : Int), ()) <| fun (v0 : (Int × Unit)) =>
  .cond (decide (v0.1 < (↑x0.len : Int))) (
   .must (true = true → (0 : Int) ≤ v0.1 ∧ v0.1 < (↑x0.len : Int) ∧ x0.a.isSome = true) <|
   .load (true) S49 ((x0.a.getD { block := 0, off := 0 }).add (v0.1.toNat * 9)) <| fun (m1 : D49) =>
    .dcall (true) 50 [S49.enc m1] .bool <| fun (r2 : Bool) =>
     .dcall (!!r2) 51 [.slice x0.a x0.len x0.cap, S47.enc m1.1] (.int .i64) <| fun (r3 : Int) =>
      .cond (bif !r2 then true else r3 != v0.1) (
       .pop <|
       .ret (.bool false)) (
       .again (.pair (.int .i64) .unit) (IntKind.i64.wrap (v0.1 + (1 : Int)), ()))) (
   .pop <|
   .ret (.bool (decide ((↑x0.len : Int) ≤ (8 : Int)))))
noncomputable def fx37 : Fx := { loops := fun n => match n with | 2 => ⟨[.slot 7 ((.int .i64))], [0, 5, 6], []⟩ | _ => ⟨[], [], []⟩, esc := fun n => memN n [], own := fun n => memN n [] }
theorem T37_eq (x0 : Sl) : evFn cx fx37 Try.f37 [.slice x0.a x0.len x0.cap] = T37 x0 := by kernel_rfl

/-- wharfage/cand.add -/
def T38 (x0 : Sl) (x1 : Int) (x2 : Int) (x3 : Bool) (x4 : D85) : T :=
 .cond (bif bif !x4.1 then true else x3 then true else decide (x2 ≤ (0 : Int))) (
  .ret (.slice x0.a x0.len x0.cap)) (
  .lit (true) [.int .i64 x1, .int .i64 x2] 70 <| fun (n0 : Nat) =>
   .append 70 2 16 x0 ⟨(some ⟨n0, 0, none⟩), 1, 1⟩ <| fun (q1 : Sl) =>
    .ret (.slice q1.a q1.len q1.cap))
noncomputable def fx38 : Fx := { loops := fun _ => ⟨[], [], []⟩, esc := fun n => memN n [], own := fun n => memN n [] }
theorem T38_eq (x0 : Sl) (x1 : Int) (x2 : Int) (x3 : Bool) (x4 : D85) : evFn cx fx38 Try.f38 [.slice x0.a x0.len x0.cap, .int .i64 x1, .int .i64 x2, .bool x3, S85.enc x4] = T38 x0 x1 x2 x3 x4 := by kernel_rfl

/-- wharfage/wharfageref10.ConfMay -/
def T39 (x0 : D23) : T :=
 .cond (bif bif decide (x0.1 < (0 : Int)) then true else decide (x0.1 > (1048576 : Int)) then true else decide ((↑x0.2.len : Int) > (3 : Int))) (
  .ret (.bool false)) (
  .loop (.pair (.int .i64) .unit) ((0 : Int), ()) <| fun (v0 : (Int × Unit)) =>
   .cond (decide (v0.1 < (↑x0.2.len : Int))) (
    .must (true = true → (0 : Int) ≤ v0.1 ∧ v0.1 < (↑x0.2.len : Int) ∧ x0.2.a.isSome = true) <|
    .load (true) S52 ((x0.2.a.getD { block := 0, off := 0 }).add (v0.1.toNat * 4)) <| fun (m1 : D52) =>
     .cond (bif bif bif bif decide (m1.1 < (0 : Int)) then true else decide (m1.1 > (16 : Int)) then true else decide (m1.2.2.1 < (0 : Int)) then true else decide (m1.2.2.1 > (8 : Int)) then true else decide ((↑m1.2.2.2.len : Int) > (4 : Int))) (
      .pop <|
      .ret (.bool false)) (
      .loop (.pair (.int .i64) .unit) ((0 : Int), ()) <| fun (v2 : (Int × Unit)) =>
       .cond (decide (v2.1 < (↑m1.2.2.2.len : Int))) (
        .must (true = true → (0 : Int) ≤ v2.1 ∧ v2.1 < (↑m1.2.2.2.len : Int) ∧ m1.2.2.2.a.isSome = true) <|
        .load (true) (.int .i64) (((m1.2.2.2.a.getD { block := 0, off := 0 }).add (v2.1.toNat * 2)).add (0)) <| fun (m3 : Int) =>
         .must ((!decide (m3 < (0 : Int))) = true → (0 : Int) ≤ v2.1 ∧ v2.1 < (↑m1.2.2.2.len : Int) ∧ m1.2.2.2.a.isSome = true) <|
         .load (!decide (m3 < (0 : Int))) (.int .i64) (((m1.2.2.2.a.getD { block := 0, off := 0 }).add (v2.1.toNat * 2)).add (0)) <| fun (m4 : Int) =>
          .cond (bif decide (m3 < (0 : Int)) then true else decide (m4 > (16 : Int))) (
           .pop <|
           .pop <|
           .ret (.bool false)) (
           .again (.pair (.int .i64) .unit) (IntKind.i64.wrap (v2.1 + (1 : Int)), ()))) (
        .pop <|
        .again (.pair (.int .i64) .unit) (IntKind.i64.wrap (v0.1 + (1 : Int)), ())))) (
    .pop <|
    .ret (.bool true)))
noncomputable def fx39 : Fx := { loops := fun n => match n with | 4 => ⟨[.slot 3 ((.int .i64))], [1], [0]⟩ | 10 => ⟨[.slot 5 ((.int .i64))], [1, 3, 4], [0, 1]⟩ | _ => ⟨[], [], []⟩, esc := fun n => memN n [], own := fun n => memN n [] }
theorem T39_eq (x0 : D23) : evFn cx fx39 Try.f39 [S23.enc x0] = T39 x0 := by kernel_rfl

/-- wharfage/wharfageref10.healthsMay -/
def T40 (x0 : Sl) (x1 : Int) : T :=
 .loop (.pair (.int .i64) .unit) ((0 : Int), ()) <| fun (v0 : (Int × Unit)) =>
  .cond (decide (v0.1 < (↑x0.len : Int))) (
   .must (true = true → (0 : Int) ≤ v0.1 ∧ v0.1 < (↑x0.len : Int) ∧ x0.a.isSome = true) <|
   .load (true) S85 ((x0.a.getD { block := 0, off := 0 }).add (v0.1.toNat * 2)) <| fun (m1 : D85) =>
    .dcall (true) 52 [S85.enc m1] .bool <| fun (r2 : Bool) =>
     .cond (!r2) (
      .pop <|
      .ret (.bool false)) (
      .again (.pair (.int .i64) .unit) (IntKind.i64.wrap (v0.1 + (1 : Int)), ()))) (
   .pop <|
   .ret (.bool ((↑x0.len : Int) == x1)))
noncomputable def fx40 : Fx := { loops := fun n => match n with | 2 => ⟨[.slot 5 ((.int .i64))], [0, 1], []⟩ | _ => ⟨[], [], []⟩, esc := fun n => memN n [], own := fun n => memN n [] }
theorem T40_eq (x0 : Sl) (x1 : Int) : evFn cx fx40 Try.f40 [.slice x0.a x0.len x0.cap, .int .i64 x1] = T40 x0 x1 := by kernel_rfl

/-- wharfage/wharfageref10.CacheMay -/
def T42 (x0 : Sl) : T :=
 .loop (.pair (.int .i64) .unit) ((0 : Int), ()) <| fun (v0 : (Int × Unit)) =>
  .cond (decide (v0.1 < (↑x0.len : Int))) (
   .must (true = true → (0 : Int) ≤ v0.1 ∧ v0.1 < (↑x0.len : Int) ∧ x0.a.isSome = true) <|
   .load (true) S49 ((x0.a.getD { block := 0, off := 0 }).add (v0.1.toNat * 9)) <| fun (m1 : D49) =>
    .dcall (true) 54 [S49.enc m1] .bool <| fun (r2 : Bool) =>
     .cond (!r2) (
      .pop <|
      .ret (.bool false)) (
      .loop (.pair (.int .i64) .unit) ((0 : Int), ()) <| fun (v3 : (Int × Unit)) =>
       .cond (decide (v3.1 < v0.1)) (
        .must (true = true → (0 : Int) ≤ v3.1 ∧ v3.1 < (↑x0.len : Int) ∧ x0.a.isSome = true) <|
        .load (true) S47 (((x0.a.getD { block := 0, off := 0 }).add (v3.1.toNat * 9)).add (0)) <| fun (m4 : D47) =>
         .must (true = true → (0 : Int) ≤ v0.1 ∧ v0.1 < (↑x0.len : Int) ∧ x0.a.isSome = true) <|
         .load (true) S47 (((x0.a.getD { block := 0, off := 0 }).add (v0.1.toNat * 9)).add (0)) <| fun (m5 : D47) =>
          .cond (eqDen S47 m4 m5) (
           .pop <|
           .pop <|
           .ret (.bool false)) (
           .again (.pair (.int .i64) .unit) (IntKind.i64.wrap (v3.1 + (1 : Int)), ()))) (
        .pop <|
        .again (.pair (.int .i64) .unit) (IntKind.i64.wrap (v0.1 + (1 : Int)), ())))) (
   .pop <|
   .ret (.bool (decide ((↑x0.len : Int) ≤ (8 : Int)))))
noncomputable def fx42 : Fx := { loops := fun n => match n with | 2 => ⟨[.slot 3 ((.int .i64))], [0], []⟩ | 7 => ⟨[.slot 4 ((.int .i64))], [0, 3], []⟩ | _ => ⟨[], [], []⟩, esc := fun n => memN n [], own := fun n => memN n [9] }
theorem T42_eq (x0 : Sl) : evFn cx fx42 Try.f42 [.slice x0.a x0.len x0.cap] = T42 x0 := by kernel_rfl

/-- wharfage/conf.to -/
def T43 (x0 : Int) (x1 : Int) : T :=
 .ret (.bool (bif decide (x0 ≥ (0 : Int)) then decide (x0 ≤ x1) else false))
noncomputable def fx43 : Fx := { loops := fun _ => ⟨[], [], []⟩, esc := fun n => memN n [], own := fun n => memN n [] }
theorem T43_eq (x0 : Int) (x1 : Int) : evFn cx fx43 Try.f43 [.int .i64 x0, .int .i64 x1] = T43 x0 x1 := by kernel_rfl

/-- wharfage/wharfagelaw0.SameBacks -/
def T44 (x0 : Sl) (x1 : Sl) : T :=
 .cond ((↑x0.len : Int) != (↑x1.len : Int)) (
  .ret (.bool false)) (
  .loop (.pair (.int .i64) .unit) ((0 : Int), ()) <| fun (v0 : (Int × Unit)) =>
   .cond (decide (v0.1 < (↑x0.len : Int))) (
    .must (true = true → (0 : Int) ≤ v0.1 ∧ v0.1 < (↑x0.len : Int) ∧ x0.a.isSome = true) <|
    .load (true) S82 ((x0.a.getD { block := 0, off := 0 }).add (v0.1.toNat * 2)) <| fun (m1 : D82) =>
     .must (true = true → (0 : Int) ≤ v0.1 ∧ v0.1 < (↑x1.len : Int) ∧ x1.a.isSome = true) <|
     .load (true) S82 ((x1.a.getD { block := 0, off := 0 }).add (v0.1.toNat * 2)) <| fun (m2 : D82) =>
      .cond (!eqDen S82 m1 m2) (
       .pop <|
       .ret (.bool false)) (
       .again (.pair (.int .i64) .unit) (IntKind.i64.wrap (v0.1 + (1 : Int)), ()))) (
    .pop <|
    .ret (.bool true)))
noncomputable def fx44 : Fx := { loops := fun n => match n with | 4 => ⟨[.slot 5 ((.int .i64))], [0, 1], []⟩ | _ => ⟨[], [], []⟩, esc := fun n => memN n [], own := fun n => memN n [6] }
theorem T44_eq (x0 : Sl) (x1 : Sl) : evFn cx fx44 Try.f44 [.slice x0.a x0.len x0.cap, .slice x1.a x1.len x1.cap] = T44 x0 x1 := by kernel_rfl

/-- wharfage/wharfageref10.NewView -/
def T45  : T :=
 .loop (.pair .slice (.pair (.int .i64) .unit)) (⟨none, 0, 0⟩, ((0 : Int), ())) <| fun (v0 : (Sl × (Int × Unit))) =>
  .cond (decide (v0.2.1 < (3 : Int))) (
   .lit (true) [.int .i64 ((0 : Int)), .int .i64 ((0 : Int)), .int .i64 ((0 : Int)), .int .i64 ((0 : Int)), .int .i64 ((-1 : Int))] 91 <| fun (n1 : Nat) =>
    .append 91 5 40 v0.1 ⟨(some ⟨n1, 0, none⟩), 1, 1⟩ <| fun (q2 : Sl) =>
     .again (.pair .slice (.pair (.int .i64) .unit)) (q2, (IntKind.i64.wrap (v0.2.1 + (1 : Int)), ()))) (
   .pop <|
   .ret (.slice v0.1.a v0.1.len v0.1.cap))
noncomputable def fx45 : Fx := { loops := fun n => match n with | 3 => ⟨[.slot 1 (.slice), .slot 2 ((.int .i64))], [], []⟩ | _ => ⟨[], [], []⟩, esc := fun n => memN n [], own := fun n => memN n [] }
theorem T45_eq  : evFn cx fx45 Try.f45 [] = T45  := by kernel_rfl

/-- wharfage/wharfageref10.News -/
def T46 (x0 : Int) : T :=
 .loop (.pair .slice (.pair (.int .i64) .unit)) (⟨none, 0, 0⟩, ((0 : Int), ())) <| fun (v0 : (Sl × (Int × Unit))) =>
  .cond (decide (v0.2.1 < x0)) (
   .lit (true) [.bool true, .int .i64 ((0 : Int))] 86 <| fun (n1 : Nat) =>
    .append 86 2 16 v0.1 ⟨(some ⟨n1, 0, none⟩), 1, 1⟩ <| fun (q2 : Sl) =>
     .again (.pair .slice (.pair (.int .i64) .unit)) (q2, (IntKind.i64.wrap (v0.2.1 + (1 : Int)), ()))) (
   .pop <|
   .ret (.slice v0.1.a v0.1.len v0.1.cap))
noncomputable def fx46 : Fx := { loops := fun n => match n with | 3 => ⟨[.slot 3 (.slice), .slot 4 ((.int .i64))], [0], []⟩ | _ => ⟨[], [], []⟩, esc := fun n => memN n [], own := fun n => memN n [] }
theorem T46_eq (x0 : Int) : evFn cx fx46 Try.f46 [.int .i64 x0] = T46 x0 := by kernel_rfl

/-- wharfage/conf.site -/
def T47 (x0 : Option Addr) : T :=
 .must (true = true → x0.isSome = true) <|
 .load (true) .slice ((x0.getD { block := 0, off := 0 }).add (3)) <| fun (m0 : Sl) =>
  .loop (.pair (.int .i64) .unit) ((0 : Int), ()) <| fun (v1 : (Int × Unit)) =>
   .cond (decide (v1.1 < (↑m0.len : Int))) (
    .must (true = true → (0 : Int) ≤ v1.1 ∧ v1.1 < (↑m0.len : Int) ∧ m0.a.isSome = true) <|
    .load (true) S82 ((m0.a.getD { block := 0, off := 0 }).add (v1.1.toNat * 2)) <| fun (m2 : D82) =>
     .dcall (true) 43 [.int .i64 m2.1, .int .i64 ((16 : Int))] .bool <| fun (r3 : Bool) =>
      .cond (!r3) (
       .pop <|
       .ret (.bool false)) (
       .again (.pair (.int .i64) .unit) (IntKind.i64.wrap (v1.1 + (1 : Int)), ()))) (
    .pop <|
    .must (true = true → x0.isSome = true) <|
    .load (true) (.int .i64) ((x0.getD { block := 0, off := 0 }).add (0)) <| fun (m2 : Int) =>
     .dcall (true) 43 [.int .i64 m2, .int .i64 ((16 : Int))] .bool <| fun (r3 : Bool) =>
      .must (r3 = true → x0.isSome = true) <|
      .load (r3) (.int .i64) ((x0.getD { block := 0, off := 0 }).add (2)) <| fun (m4 : Int) =>
       .dcall (r3) 43 [.int .i64 m4, .int .i64 ((8 : Int))] .bool <| fun (r5 : Bool) =>
        .must ((bif r3 then r5 else false) = true → x0.isSome = true) <|
        .load (bif r3 then r5 else false) .slice ((x0.getD { block := 0, off := 0 }).add (3)) <| fun (m6 : Sl) =>
         .ret (.bool (bif bif r3 then r5 else false then decide ((↑m6.len : Int) ≤ (4 : Int)) else false)))
noncomputable def fx47 : Fx := { loops := fun n => match n with | 2 => ⟨[.slot 10 ((.int .i64))], [0, 8, 9], []⟩ | _ => ⟨[], [], []⟩, esc := fun n => memN n [], own := fun n => memN n [] }
theorem T47_eq (x0 : Option Addr) : evFn cx fx47 Try.f47 [.pointer x0] = T47 x0 := by kernel_rfl

/-- wharfage/health.May -/
def T48 (x0 : D85) : T :=
 .new [.bool x0.1, .int .i64 x0.2] 86 <| fun (n0 : Nat) =>
  .load (true) (.int .i64) ((⟨n0, 0, none⟩ : Addr).add (1)) <| fun (m1 : Int) =>
   .load (decide (m1 ≥ (0 : Int))) (.int .i64) ((⟨n0, 0, none⟩ : Addr).add (1)) <| fun (m2 : Int) =>
    .dcall (decide (m1 ≥ (0 : Int))) 55 [.pointer (some ⟨n0, 0, none⟩)] (.int .i64) <| fun (r3 : Int) =>
     .ret (.bool (bif decide (m1 ≥ (0 : Int)) then decide (m2 < r3) else false))
noncomputable def fx48 : Fx := { loops := fun _ => ⟨[], [], []⟩, esc := fun n => memN n [1], own := fun n => memN n [1] }
theorem T48_eq (x0 : D85) : evFn cx fx48 Try.f48 [S85.enc x0] = T48 x0 := by kernel_rfl

/-- wharfage/report.May -/
def T49 (x0 : D88) : T :=
 .dcall (true) 34 [.int .i64 x0.1] .bool <| fun (r0 : Bool) =>
  .dcall (r0) 56 [.int .i64 x0.2.1] .bool <| fun (r1 : Bool) =>
   .dcall (bif r0 then r1 else false) 57 [.int .i64 x0.2.2.1, .int .i64 ((8 : Int))] .bool <| fun (r2 : Bool) =>
    .dcall (bif bif r0 then r1 else false then r2 else false) 57 [.int .i64 x0.2.2.2, .int .i64 ((8 : Int))] .bool <| fun (r3 : Bool) =>
     .ret (.bool (bif bif bif r0 then r1 else false then r2 else false then r3 else false))
noncomputable def fx49 : Fx := { loops := fun _ => ⟨[], [], []⟩, esc := fun n => memN n [], own := fun n => memN n [] }
theorem T49_eq (x0 : D88) : evFn cx fx49 Try.f49 [S88.enc x0] = T49 x0 := by kernel_rfl

/-- wharfage/entry.May -/
def T50 (x0 : D49) : T :=
 .dcall (true) 58 [S47.enc x0.1] .bool <| fun (r0 : Bool) =>
  .dcall (r0) 57 [.int .i64 x0.2.1, .int .i64 ((8 : Int))] .bool <| fun (r1 : Bool) =>
   .dcall (bif r0 then r1 else false) 59 [.int .i64 x0.2.2.2.1] .bool <| fun (r2 : Bool) =>
    .dcall (bif bif r0 then r1 else false then r2 else false) 24 [.int .i64 x0.2.2.2.2] .bool <| fun (r3 : Bool) =>
     .ret (.bool (bif bif bif r0 then r1 else false then r2 else false then r3 else false))
noncomputable def fx50 : Fx := { loops := fun _ => ⟨[], [], []⟩, esc := fun n => memN n [], own := fun n => memN n [] }
theorem T50_eq (x0 : D49) : evFn cx fx50 Try.f50 [S49.enc x0] = T50 x0 := by kernel_rfl

/-- wharfage/cache.at -/
def T51 (x0 : Sl) (x1 : D47) : T :=
 .new [.int .i64 x1.1, .int .i64 x1.2.1, .int .i64 x1.2.2.1, .int .i64 x1.2.2.2.1, .int .i64 x1.2.2.2.2] 48 <| fun (n0 : Nat) =>
  .dcall (true) 60 [.slice x0.a x0.len x0.cap, .func (.func 61) #[] #[.pointer (some ⟨n0, 0, none⟩)]] (.int .i64) <| fun (r1 : Int) =>
   .ret (.int .i64 r1)
noncomputable def fx51 : Fx := { loops := fun _ => ⟨[], [], []⟩, esc := fun n => memN n [3], own := fun n => memN n [] }
theorem T51_eq (x0 : Sl) (x1 : D47) : evFn cx fx51 Try.f51 [.slice x0.a x0.len x0.cap, S47.enc x1] = T51 x0 x1 := by kernel_rfl

/-- wharfage/wharfageref10.HealthMay -/
def T52 (x0 : D85) : T :=
 .cond (x0.1) (
  .ret (.bool (bif decide (x0.2 ≥ (0 : Int)) then decide (x0.2 < (3 : Int)) else false))) (
  .ret (.bool (bif decide (x0.2 ≥ (0 : Int)) then decide (x0.2 < (3 : Int)) else false)))
noncomputable def fx52 : Fx := { loops := fun _ => ⟨[], [], []⟩, esc := fun n => memN n [], own := fun n => memN n [] }
theorem T52_eq (x0 : D85) : evFn cx fx52 Try.f52 [S85.enc x0] = T52 x0 := by kernel_rfl

/-- wharfage/wharfageref1.ReportMay -/
def T53 (x0 : D88) : T :=
 .dcall (bif bif bif decide (x0.1 ≥ (0 : Int)) then decide (x0.1 < (3 : Int)) else false then decide (x0.2.1 ≥ (0 : Int)) else false then decide (x0.2.1 < (65536 : Int)) else false) 62 [.int .i64 x0.2.2.1, .int .i64 ((8 : Int))] .bool <| fun (r0 : Bool) =>
  .dcall (bif bif bif bif decide (x0.1 ≥ (0 : Int)) then decide (x0.1 < (3 : Int)) else false then decide (x0.2.1 ≥ (0 : Int)) else false then decide (x0.2.1 < (65536 : Int)) else false then r0 else false) 62 [.int .i64 x0.2.2.2, .int .i64 ((8 : Int))] .bool <| fun (r1 : Bool) =>
   .ret (.bool (bif bif bif bif bif decide (x0.1 ≥ (0 : Int)) then decide (x0.1 < (3 : Int)) else false then decide (x0.2.1 ≥ (0 : Int)) else false then decide (x0.2.1 < (65536 : Int)) else false then r0 else false then r1 else false))
noncomputable def fx53 : Fx := { loops := fun _ => ⟨[], [], []⟩, esc := fun n => memN n [], own := fun n => memN n [] }
theorem T53_eq (x0 : D88) : evFn cx fx53 Try.f53 [S88.enc x0] = T53 x0 := by kernel_rfl

/-- wharfage/wharfageref10.EntryMay -/
def T54 (x0 : D49) : T :=
 .dcall (true) 63 [S47.enc x0.1] .bool <| fun (r0 : Bool) =>
  .dcall (bif bif r0 then decide (x0.2.1 ≥ (0 : Int)) else false then decide (x0.2.1 ≤ (255 : Int)) else false) 64 [.int .i64 x0.2.2.2.1] .bool <| fun (r1 : Bool) =>
   .dcall (bif bif bif r0 then decide (x0.2.1 ≥ (0 : Int)) else false then decide (x0.2.1 ≤ (255 : Int)) else false then r1 else false) 26 [.int .i64 x0.2.2.2.2] .bool <| fun (r2 : Bool) =>
    .ret (.bool (bif bif bif bif r0 then decide (x0.2.1 ≥ (0 : Int)) else false then decide (x0.2.1 ≤ (255 : Int)) else false then r1 else false then r2 else false))
noncomputable def fx54 : Fx := { loops := fun _ => ⟨[], [], []⟩, esc := fun n => memN n [], own := fun n => memN n [] }
theorem T54_eq (x0 : D49) : evFn cx fx54 Try.f54 [S49.enc x0] = T54 x0 := by kernel_rfl

/-- wharfage/health.turns -/
def T55 (x0 : Option Addr) : T :=
 .must (true = true → x0.isSome = true) <|
 .load (true) .bool ((x0.getD { block := 0, off := 0 }).add (0)) <| fun (m0 : Bool) =>
  .cond (m0) (
   .ret (.int .i64 ((3 : Int)))) (
   .ret (.int .i64 ((3 : Int))))
noncomputable def fx55 : Fx := { loops := fun _ => ⟨[], [], []⟩, esc := fun n => memN n [], own := fun n => memN n [] }
theorem T55_eq (x0 : Option Addr) : evFn cx fx55 Try.f55 [.pointer x0] = T55 x0 := by kernel_rfl

/-- wharfage/report.serial -/
def T56 (x0 : Int) : T :=
 .ret (.bool (bif decide (x0 ≥ (0 : Int)) then decide (x0 < (65536 : Int)) else false))
noncomputable def fx56 : Fx := { loops := fun _ => ⟨[], [], []⟩, esc := fun n => memN n [], own := fun n => memN n [] }
theorem T56_eq (x0 : Int) : evFn cx fx56 Try.f56 [.int .i64 x0] = T56 x0 := by kernel_rfl

/-- wharfage/ip.In -/
def T57 (x0 : Int) (x1 : Int) : T :=
 .must (decide (x0 ≥ (0 : Int)) = true → (0 : Int) ≤ x1) <|
 .ret (.bool (bif decide (x0 ≥ (0 : Int)) then x0.fdiv ((2 : Int) ^ min x1.toNat IntKind.i64.bits) == (0 : Int) else false))
noncomputable def fx57 : Fx := { loops := fun _ => ⟨[], [], []⟩, esc := fun n => memN n [], own := fun n => memN n [] }
theorem T57_eq (x0 : Int) (x1 : Int) : evFn cx fx57 Try.f57 [.int .i64 x0, .int .i64 x1] = T57 x0 x1 := by kernel_rfl

/-- wharfage/flow.May -/
def T58 (x0 : D47) : T :=
 .dcall (true) 57 [.int .i64 x0.1, .int .i64 ((32 : Int))] .bool <| fun (r0 : Bool) =>
  .dcall (r0) 57 [.int .i64 x0.2.1, .int .i64 ((32 : Int))] .bool <| fun (r1 : Bool) =>
   .dcall (bif r0 then r1 else false) 65 [.int .i64 x0.2.2.1] .bool <| fun (r2 : Bool) =>
    .dcall (bif bif r0 then r1 else false then r2 else false) 57 [.int .i64 x0.2.2.2.1, .int .i64 ((16 : Int))] .bool <| fun (r3 : Bool) =>
     .dcall (bif bif bif r0 then r1 else false then r2 else false then r3 else false) 57 [.int .i64 x0.2.2.2.2, .int .i64 ((16 : Int))] .bool <| fun (r4 : Bool) =>
      .ret (.bool (bif bif bif bif r0 then r1 else false then r2 else false then r3 else false then r4 else false))
noncomputable def fx58 : Fx := { loops := fun _ => ⟨[], [], []⟩, esc := fun n => memN n [], own := fun n => memN n [] }
theorem T58_eq (x0 : D47) : evFn cx fx58 Try.f58 [S47.enc x0] = T58 x0 := by kernel_rfl

/-- wharfage/track.May -/
def T59 (x0 : Int) : T :=
 .ret (.bool (bif decide (x0 ≥ (0 : Int)) then decide (x0 ≤ (2 : Int)) else false))
noncomputable def fx59 : Fx := { loops := fun _ => ⟨[], [], []⟩, esc := fun n => memN n [], own := fun n => memN n [] }
theorem T59_eq (x0 : Int) : evFn cx fx59 Try.f59 [.int .i64 x0] = T59 x0 := by kernel_rfl

/-- wharfage/cache.at$1 -/
def T61 (x0 : D49) (c0 : Addr) : T :=
 .load (true) S47 (c0) <| fun (m0 : D47) =>
  .ret (.bool (eqDen S47 x0.1 m0))
noncomputable def fx61 : Fx := { loops := fun _ => ⟨[], [], []⟩, esc := fun n => memN n [], own := fun n => memN n [] }
theorem T61_eq (x0 : D49) (c0 : Addr) : evFn cx fx61 Try.f61 [S49.enc x0, .pointer (some c0)] = T61 x0 c0 := by kernel_rfl

/-- wharfage/wharfageref1.within -/
def T62 (x0 : Int) (x1 : Int) : T :=
 .must (decide (x0 ≥ (0 : Int)) = true → (0 : Int) ≤ x1) <|
 .ret (.bool (bif decide (x0 ≥ (0 : Int)) then decide (x0 < IntKind.i64.wrap ((1 : Int) * (2 : Int) ^ min x1.toNat IntKind.i64.bits)) else false))
noncomputable def fx62 : Fx := { loops := fun _ => ⟨[], [], []⟩, esc := fun n => memN n [], own := fun n => memN n [] }
theorem T62_eq (x0 : Int) (x1 : Int) : evFn cx fx62 Try.f62 [.int .i64 x0, .int .i64 x1] = T62 x0 x1 := by kernel_rfl

/-- wharfage/wharfageref1.FlowMay -/
def T63 (x0 : D47) : T :=
 .dcall (true) 62 [.int .i64 x0.1, .int .i64 ((32 : Int))] .bool <| fun (r0 : Bool) =>
  .dcall (r0) 62 [.int .i64 x0.2.1, .int .i64 ((32 : Int))] .bool <| fun (r1 : Bool) =>
   .dcall (bif bif r0 then r1 else false then bif x0.2.2.1 == (6 : Int) then true else x0.2.2.1 == (17 : Int) else false) 62 [.int .i64 x0.2.2.2.1, .int .i64 ((16 : Int))] .bool <| fun (r2 : Bool) =>
    .dcall (bif bif bif r0 then r1 else false then bif x0.2.2.1 == (6 : Int) then true else x0.2.2.1 == (17 : Int) else false then r2 else false) 62 [.int .i64 x0.2.2.2.2, .int .i64 ((16 : Int))] .bool <| fun (r3 : Bool) =>
     .ret (.bool (bif bif bif bif r0 then r1 else false then bif x0.2.2.1 == (6 : Int) then true else x0.2.2.1 == (17 : Int) else false then r2 else false then r3 else false))
noncomputable def fx63 : Fx := { loops := fun _ => ⟨[], [], []⟩, esc := fun n => memN n [], own := fun n => memN n [] }
theorem T63_eq (x0 : D47) : evFn cx fx63 Try.f63 [S47.enc x0] = T63 x0 := by kernel_rfl

/-- wharfage/wharfageref10.phaseMay -/
def T64 (x0 : Int) : T :=
 .ret (.bool (bif decide (x0 ≥ (0 : Int)) then decide (x0 ≤ (2 : Int)) else false))
noncomputable def fx64 : Fx := { loops := fun _ => ⟨[], [], []⟩, esc := fun n => memN n [], own := fun n => memN n [] }
theorem T64_eq (x0 : Int) : evFn cx fx64 Try.f64 [.int .i64 x0] = T64 x0 := by kernel_rfl

/-- wharfage/flow.handled -/
def T65 (x0 : Int) : T :=
 .ret (.bool (bif x0 == (6 : Int) then true else x0 == (17 : Int)))
noncomputable def fx65 : Fx := { loops := fun _ => ⟨[], [], []⟩, esc := fun n => memN n [], own := fun n => memN n [] }
theorem T65_eq (x0 : Int) : evFn cx fx65 Try.f65 [.int .i64 x0] = T65 x0 := by kernel_rfl


/-- slices.IndexFunc[[]wharfage/api.Entry,wharfage/api.Entry] -/
def T60 (x0 : Sl) (p : Addr) : T :=
 .loop (.pair (.int .i64) .unit) ((0 : Int), ()) <| fun (v0 : (Int × Unit)) =>
  .cond (decide (v0.1 < (↑x0.len : Int))) (
   .must (true = true → (0 : Int) ≤ v0.1 ∧ v0.1 < (↑x0.len : Int) ∧ x0.a.isSome = true) <|
   .load (true) S49 ((x0.a.getD { block := 0, off := 0 }).add (v0.1.toNat * 9)) <| fun (m1 : D49) =>
    .dcall (true) 61 [S49.enc m1, .pointer (some p)] .bool <| fun (r2 : Bool) =>
     .cond (r2) (
      .pop <|
      .ret (.int .i64 v0.1)) (
      .again (.pair (.int .i64) .unit) (IntKind.i64.wrap (v0.1 + (1 : Int)), ()))) (
   .pop <|
   .ret (.int .i64 ((-1 : Int))))
noncomputable def fx60 : Fx := { loops := fun n => match n with | 2 => ⟨[.slot 8 ((.int .i64))], [0, 1, 7], []⟩ | _ => ⟨[], [], []⟩, esc := fun n => memN n [], own := fun n => memN n [] }
theorem T60_eq (x0 : Sl) (p : Addr) : evFn cx fx60 Try.f60 [.slice x0.a x0.len x0.cap, .func (.func 61) #[] #[.pointer (some p)]] = T60 x0 p := by kernel_rfl


/-- wharfage/wharfageref10.Has -/
def T21 (x0 : D23) (x1 : Int) (x2 : Int) : T :=
 .dcall (true) 39 [S23.enc x0] .bool <| fun (r0 : Bool) =>
  .must ((decide (x2 ≥ (0 : Int)) && (!x2 == (-1 : Int) && bif bif r0 then decide (x1 ≥ (0 : Int)) else false then decide (x1 < (↑x0.2.len : Int)) else false)) = true → (0 : Int) ≤ x1 ∧ x1 < (↑x0.2.len : Int) ∧ x0.2.a.isSome = true) <|
  .load (decide (x2 ≥ (0 : Int)) && (!x2 == (-1 : Int) && bif bif r0 then decide (x1 ≥ (0 : Int)) else false then decide (x1 < (↑x0.2.len : Int)) else false)) .slice (((x0.2.a.getD { block := 0, off := 0 }).add (x1.toNat * 4)).add (3)) <| fun (m1 : Sl) =>
   .ret (.bool (bif bif bif r0 then decide (x1 ≥ (0 : Int)) else false then decide (x1 < (↑x0.2.len : Int)) else false then bif x2 == (-1 : Int) then true else bif decide (x2 ≥ (0 : Int)) then decide (x2 < (↑m1.len : Int)) else false else false))
noncomputable def fx21 : Fx := { loops := fun _ => ⟨[], [], []⟩, esc := fun n => memN n [], own := fun n => memN n [] }
theorem T21_eq (x0 : D23) (x1 : Int) (x2 : Int) : evFn cx fx21 Try.f21 [S23.enc x0, .int .i64 x1, .int .i64 x2] = T21 x0 x1 x2 := by kernel_rfl

/-- wharfage/view.May -/
def T36 (x0 : Sl) : T :=
 .loop (.pair (.int .i64) .unit) ((0 : Int), ()) <| fun (v0 : (Int × Unit)) =>
  .cond (decide (v0.1 < (↑x0.len : Int))) (
   .must (true = true → (0 : Int) ≤ v0.1 ∧ v0.1 < (↑x0.len : Int) ∧ x0.a.isSome = true) <|
   .load (true) S90 ((x0.a.getD { block := 0, off := 0 }).add (v0.1.toNat * 5)) <| fun (m1 : D90) =>
    .dcall (!bif m1.2 == (-1 : Int) then eqDen S88 m1.1 ((0 : Int), (0 : Int), (0 : Int), (0 : Int)) else false) 24 [.int .i64 m1.2] .bool <| fun (r2 : Bool) =>
     .dcall (!!r2 && !bif m1.2 == (-1 : Int) then eqDen S88 m1.1 ((0 : Int), (0 : Int), (0 : Int), (0 : Int)) else false) 49 [S88.enc m1.1] .bool <| fun (r3 : Bool) =>
      .cond (bif !bif m1.2 == (-1 : Int) then eqDen S88 m1.1 ((0 : Int), (0 : Int), (0 : Int), (0 : Int)) else false then bif bif !r2 then true else !r3 then true else m1.1.1 != v0.1 else false) (
       .pop <|
       .ret (.bool false)) (
       .again (.pair (.int .i64) .unit) (IntKind.i64.wrap (v0.1 + (1 : Int)), ()))) (
   .pop <|
   .ret (.bool ((↑x0.len : Int) == (3 : Int))))
noncomputable def fx36 : Fx := { loops := fun n => match n with | 2 => ⟨[.slot 8 ((.int .i64))], [0, 6, 7], []⟩ | _ => ⟨[], [], []⟩, esc := fun n => memN n [], own := fun n => memN n [] }
theorem T36_eq (x0 : Sl) : evFn cx fx36 Try.f36 [.slice x0.a x0.len x0.cap] = T36 x0 := by kernel_rfl

/-- wharfage/wharfageref10.ViewMay -/
def T41 (x0 : Sl) : T :=
 .loop (.pair (.int .i64) .unit) ((0 : Int), ()) <| fun (v0 : (Int × Unit)) =>
  .cond (decide (v0.1 < (↑x0.len : Int))) (
   .must (true = true → (0 : Int) ≤ v0.1 ∧ v0.1 < (↑x0.len : Int) ∧ x0.a.isSome = true) <|
   .load (true) S90 ((x0.a.getD { block := 0, off := 0 }).add (v0.1.toNat * 5)) <| fun (m1 : D90) =>
    .dcall ((!bif decide (m1.2 < (0 : Int)) then true else decide (m1.2 > (1048576 : Int))) && !bif m1.2 == (-1 : Int) then eqDen S88 m1.1 ((0 : Int), (0 : Int), (0 : Int), (0 : Int)) else false) 53 [S88.enc m1.1] .bool <| fun (r2 : Bool) =>
     .cond (bif !bif m1.2 == (-1 : Int) then eqDen S88 m1.1 ((0 : Int), (0 : Int), (0 : Int), (0 : Int)) else false then bif bif bif decide (m1.2 < (0 : Int)) then true else decide (m1.2 > (1048576 : Int)) then true else !r2 then true else m1.1.1 != v0.1 else false) (
      .pop <|
      .ret (.bool false)) (
      .again (.pair (.int .i64) .unit) (IntKind.i64.wrap (v0.1 + (1 : Int)), ()))) (
   .pop <|
   .ret (.bool ((↑x0.len : Int) == (3 : Int))))
noncomputable def fx41 : Fx := { loops := fun n => match n with | 2 => ⟨[.slot 3 ((.int .i64))], [0], []⟩ | _ => ⟨[], [], []⟩, esc := fun n => memN n [], own := fun n => memN n [] }
theorem T41_eq (x0 : Sl) : evFn cx fx41 Try.f41 [.slice x0.a x0.len x0.cap] = T41 x0 := by kernel_rfl
end Go.Ev.Spare
