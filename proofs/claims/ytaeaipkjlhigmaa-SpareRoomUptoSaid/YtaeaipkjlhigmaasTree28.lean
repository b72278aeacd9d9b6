/- The trees of this seat's functions: printed by this work's own program (wip/tools), each held against the evaluator by 'kernel_rfl'. -/
import Derived.Test.YtaeaipkjlhigmaasTrees
set_option maxRecDepth 100000
set_option maxHeartbeats 0
set_option linter.unusedVariables false
namespace Go.Ev.Spare
open Go Go.Ev Go.Proofs


/-- wharfage/wharfagelaw0.SameConfig -/
def T28 (x0 : D23) (x1 : D23) : T :=
 .cond (bif x0.1 != x1.1 then true else (↑x0.2.len : Int) != (↑x1.2.len : Int)) (
  .ret (.bool false)) (
  .loop (.pair (.int .i64) .unit) ((0 : Int), ()) <| fun (v0 : (Int × Unit)) =>
   .cond (decide (v0.1 < (↑x0.2.len : Int))) (
    .must (true = true → (0 : Int) ≤ v0.1 ∧ v0.1 < (↑x0.2.len : Int) ∧ x0.2.a.isSome = true) <|
    .load (true) S52 ((x0.2.a.getD { block := 0, off := 0 }).add (v0.1.toNat * 4)) <| fun (m1 : D52) =>
     .both (
      .must (true = true → (0 : Int) ≤ v0.1 ∧ v0.1 < (↑x1.2.len : Int) ∧ x1.2.a.isSome = true) <|
      .load (true) S52 ((x1.2.a.getD { block := 0, off := 0 }).add (v0.1.toNat * 4)) <| fun (m2 : D52) =>
       .both/-same-/ (
        .dcall (!bif bif m1.1 != m2.1 then true else !m1.2.1 == m2.2.1 then true else m1.2.2.1 != m2.2.2.1) 44 [.slice m1.2.2.2.a m1.2.2.2.len m1.2.2.2.cap, .slice m2.2.2.2.a m2.2.2.2.len m2.2.2.2.cap] .bool <| fun (r3 : Bool) =>
         .cond (bif bif bif m1.1 != m2.1 then true else !m1.2.1 == m2.2.1 then true else m1.2.2.1 != m2.2.2.1 then true else !r3) (
          .pop <|
          .ret (.bool false)) (
          .again (.pair (.int .i64) .unit) (IntKind.i64.wrap (v0.1 + (1 : Int)), ()))) (
        .dcall (!bif bif m1.1 != m2.1 then true else !m1.2.1 == m2.2.1 then true else m1.2.2.1 != m2.2.2.1) 44 [.slice m1.2.2.2.a m1.2.2.2.len m1.2.2.2.cap, .slice m2.2.2.2.a m2.2.2.2.len m2.2.2.2.cap] .bool <| fun (r3 : Bool) =>
         .cond (bif bif bif m1.1 != m2.1 then true else !m1.2.1 == m2.2.1 then true else m1.2.2.1 != m2.2.2.1 then true else !r3) (
          .pop <|
          .ret (.bool false)) (
          .again (.pair (.int .i64) .unit) (IntKind.i64.wrap (v0.1 + (1 : Int)), ())))) (
      .both/-same-/ (
       .both (
        .must (true = true → (0 : Int) ≤ v0.1 ∧ v0.1 < (↑x1.2.len : Int) ∧ x1.2.a.isSome = true) <|
        .load (true) S52 ((x1.2.a.getD { block := 0, off := 0 }).add (v0.1.toNat * 4)) <| fun (m2 : D52) =>
         .dcall (!bif bif m1.1 != m2.1 then true else !m1.2.1 == m2.2.1 then true else m1.2.2.1 != m2.2.2.1) 44 [.slice m1.2.2.2.a m1.2.2.2.len m1.2.2.2.cap, .slice m2.2.2.2.a m2.2.2.2.len m2.2.2.2.cap] .bool <| fun (r3 : Bool) =>
          .cond (bif bif bif m1.1 != m2.1 then true else !m1.2.1 == m2.2.1 then true else m1.2.2.1 != m2.2.2.1 then true else !r3) (
           .pop <|
           .ret (.bool false)) (
           .again (.pair (.int .i64) .unit) (IntKind.i64.wrap (v0.1 + (1 : Int)), ()))) (
        .both/-same-/ (
         .must (true = true → (0 : Int) ≤ v0.1 ∧ v0.1 < (↑x1.2.len : Int) ∧ x1.2.a.isSome = true) <|
         .load (true) S52 ((x1.2.a.getD { block := 0, off := 0 }).add (v0.1.toNat * 4)) <| fun (m2 : D52) =>
          .dcall (!bif bif m1.1 != m2.1 then true else !m1.2.1 == m2.2.1 then true else m1.2.2.1 != m2.2.2.1) 44 [.slice m1.2.2.2.a m1.2.2.2.len m1.2.2.2.cap, .slice m2.2.2.2.a m2.2.2.2.len m2.2.2.2.cap] .bool <| fun (r3 : Bool) =>
           .cond (bif bif bif m1.1 != m2.1 then true else !m1.2.1 == m2.2.1 then true else m1.2.2.1 != m2.2.2.1 then true else !r3) (
            .pop <|
            .ret (.bool false)) (
            .again (.pair (.int .i64) .unit) (IntKind.i64.wrap (v0.1 + (1 : Int)), ()))) (
         .must (true = true → (0 : Int) ≤ v0.1 ∧ v0.1 < (↑x1.2.len : Int) ∧ x1.2.a.isSome = true) <|
         .load (true) S52 ((x1.2.a.getD { block := 0, off := 0 }).add (v0.1.toNat * 4)) <| fun (m2 : D52) =>
          .dcall (!bif bif m1.1 != m2.1 then true else !m1.2.1 == m2.2.1 then true else m1.2.2.1 != m2.2.2.1) 44 [.slice m1.2.2.2.a m1.2.2.2.len m1.2.2.2.cap, .slice m2.2.2.2.a m2.2.2.2.len m2.2.2.2.cap] .bool <| fun (r3 : Bool) =>
           .cond (bif bif bif m1.1 != m2.1 then true else !m1.2.1 == m2.2.1 then true else m1.2.2.1 != m2.2.2.1 then true else !r3) (
            .pop <|
            .ret (.bool false)) (
            .again (.pair (.int .i64) .unit) (IntKind.i64.wrap (v0.1 + (1 : Int)), ()))))) (
       .both (
        .must (true = true → (0 : Int) ≤ v0.1 ∧ v0.1 < (↑x1.2.len : Int) ∧ x1.2.a.isSome = true) <|
        .load (true) S52 ((x1.2.a.getD { block := 0, off := 0 }).add (v0.1.toNat * 4)) <| fun (m2 : D52) =>
         .dcall (!bif bif m1.1 != m2.1 then true else !m1.2.1 == m2.2.1 then true else m1.2.2.1 != m2.2.2.1) 44 [.slice m1.2.2.2.a m1.2.2.2.len m1.2.2.2.cap, .slice m2.2.2.2.a m2.2.2.2.len m2.2.2.2.cap] .bool <| fun (r3 : Bool) =>
          .cond (bif bif bif m1.1 != m2.1 then true else !m1.2.1 == m2.2.1 then true else m1.2.2.1 != m2.2.2.1 then true else !r3) (
           .pop <|
           .ret (.bool false)) (
           .again (.pair (.int .i64) .unit) (IntKind.i64.wrap (v0.1 + (1 : Int)), ()))) (
        .both/-same-/ (
         .must (true = true → (0 : Int) ≤ v0.1 ∧ v0.1 < (↑x1.2.len : Int) ∧ x1.2.a.isSome = true) <|
         .load (true) S52 ((x1.2.a.getD { block := 0, off := 0 }).add (v0.1.toNat * 4)) <| fun (m2 : D52) =>
          .dcall (!bif bif m1.1 != m2.1 then true else !m1.2.1 == m2.2.1 then true else m1.2.2.1 != m2.2.2.1) 44 [.slice m1.2.2.2.a m1.2.2.2.len m1.2.2.2.cap, .slice m2.2.2.2.a m2.2.2.2.len m2.2.2.2.cap] .bool <| fun (r3 : Bool) =>
           .cond (bif bif bif m1.1 != m2.1 then true else !m1.2.1 == m2.2.1 then true else m1.2.2.1 != m2.2.2.1 then true else !r3) (
            .pop <|
            .ret (.bool false)) (
            .again (.pair (.int .i64) .unit) (IntKind.i64.wrap (v0.1 + (1 : Int)), ()))) (
         .must (true = true → (0 : Int) ≤ v0.1 ∧ v0.1 < (↑x1.2.len : Int) ∧ x1.2.a.isSome = true) <|
         .load (true) S52 ((x1.2.a.getD { block := 0, off := 0 }).add (v0.1.toNat * 4)) <| fun (m2 : D52) =>
          .dcall (!bif bif m1.1 != m2.1 then true else !m1.2.1 == m2.2.1 then true else m1.2.2.1 != m2.2.2.1) 44 [.slice m1.2.2.2.a m1.2.2.2.len m1.2.2.2.cap, .slice m2.2.2.2.a m2.2.2.2.len m2.2.2.2.cap] .bool <| fun (r3 : Bool) =>
           .cond (bif bif bif m1.1 != m2.1 then true else !m1.2.1 == m2.2.1 then true else m1.2.2.1 != m2.2.2.1 then true else !r3) (
            .pop <|
            .ret (.bool false)) (
            .again (.pair (.int .i64) .unit) (IntKind.i64.wrap (v0.1 + (1 : Int)), ()))))))) (
    .pop <|
    .ret (.bool true)))
noncomputable def fx28 : Fx := { loops := fun n => match n with | 4 => ⟨[.slot 5 ((.int .i64))], [2, 3], [0, 1]⟩ | _ => ⟨[], [], []⟩, esc := fun n => memN n [], own := fun n => memN n [6] }
theorem T28_eq (x0 : D23) (x1 : D23) : evFn cx fx28 Try.f28 [S23.enc x0, S23.enc x1] = T28 x0 x1 := by kernel_rfl

end Go.Ev.Spare
