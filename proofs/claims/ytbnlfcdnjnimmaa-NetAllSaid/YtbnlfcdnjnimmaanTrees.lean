/- The trees of this seat's functions: printed by this work's own program (wip/tools), each held against the evaluator by 'kernel_rfl'. -/
import Derived.Test.YtbnlfcdnjnimmaanCx
set_option maxRecDepth 100000
set_option maxHeartbeats 0
set_option linter.unusedVariables false
namespace Go.Ev.Nets
open Go Go.Ev Go.Proofs



/-- wharfage/wharfagelaw22.Nets -/
def T3 (x0 : Sl) (x1 : Sl) : T :=
 .call 7 [] .ptr <| fun (r0 : Option Addr) =>
  .new [.slice none (0) (0)] 28 <| fun (n1 : Nat) =>
   .cond (Option.isNone r0) (
    .ret (.bool false)) (
    .loop (.pair (.int .i64) .unit) ((0 : Int), ()) <| fun (v2 : (Int × Unit)) =>
     .cond (bif decide (v2.1 < (↑x1.len : Int)) then decide (v2.1 < (80 : Int)) else false) (
      .must (true = true → (0 : Int) ≤ v2.1 ∧ v2.1 < (↑x1.len : Int) ∧ x1.a.isSome = true) <|
      .load (true) (.int .i64) ((x1.a.getD { block := 0, off := 0 }).add (v2.1.toNat * 1)) <| fun (m3 : Int) =>
       .must (true = true → (0 : Int) ≤ (2 : Int)) <|
       .must (true = true → (0 : Int) ≤ v2.1 ∧ v2.1 < (↑x1.len : Int) ∧ x1.a.isSome = true) <|
       .load (true) (.int .i64) ((x1.a.getD { block := 0, off := 0 }).add (v2.1.toNat * 1)) <| fun (m4 : Int) =>
        .cond (bitsI BinOp.and IntKind.i64 m4 (3 : Int) == (0 : Int)) (
         .cond (bitsI BinOp.and IntKind.i64 m4 (3 : Int) == (0 : Int)) (
          .cond (decide ((↑x0.len : Int) > (0 : Int))) (
           .must (true = true → (↑x0.len : Int) ≠ (0 : Int)) <|
           .must (true = true → (0 : Int) ≤ v2.1.tmod (↑x0.len : Int) ∧ v2.1.tmod (↑x0.len : Int) < (↑x0.len : Int) ∧ x0.a.isSome = true) <|
           .load (true) .str ((x0.a.getD { block := 0, off := 0 }).add ((v2.1.tmod (↑x0.len : Int)).toNat * 1)) <| fun (m5 : ByteArray) =>
            .call 9 [.pointer r0, .string m5] (.int .i64) <| fun (r6 : Int) =>
             .dcall (true) 8 [.int .i64 r6] (.int .i64) <| fun (r7 : Int) =>
              .call 10 [.pointer (some ⟨n1, 0, none⟩), .string m5] (.int .i64) <| fun (r8 : Int) =>
               .cond (r7 != r8) (
                .pop <|
                .ret (.bool false)) (
                .call 15 [.pointer r0] .slice <| fun (r9 : Sl) =>
                 .must (true = true → (some (⟨n1, 0, none⟩ : Addr)).isSome = true) <|
                 .load (true) .slice (((some (⟨n1, 0, none⟩ : Addr)).getD { block := 0, off := 0 }).add (0)) <| fun (m10 : Sl) =>
                  .dcall (true) 16 [.slice r9.a r9.len r9.cap, .slice m10.a m10.len m10.cap] .bool <| fun (r11 : Bool) =>
                   .cond (!r11) (
                    .pop <|
                    .ret (.bool false)) (
                    .call 17 [.slice r9.a r9.len r9.cap] (.tup .unit) <| fun (r12 : Unit) =>
                     .again (.pair (.int .i64) .unit) (IntKind.i64.wrap (v2.1 + (1 : Int)), ())))) (
           .call 9 [.pointer r0, .string ((⟨#[(122 : UInt8)]⟩ : ByteArray))] (.int .i64) <| fun (r5 : Int) =>
            .dcall (true) 8 [.int .i64 r5] (.int .i64) <| fun (r6 : Int) =>
             .call 10 [.pointer (some ⟨n1, 0, none⟩), .string ((⟨#[(122 : UInt8)]⟩ : ByteArray))] (.int .i64) <| fun (r7 : Int) =>
              .cond (r6 != r7) (
               .pop <|
               .ret (.bool false)) (
               .call 15 [.pointer r0] .slice <| fun (r8 : Sl) =>
                .must (true = true → (some (⟨n1, 0, none⟩ : Addr)).isSome = true) <|
                .load (true) .slice (((some (⟨n1, 0, none⟩ : Addr)).getD { block := 0, off := 0 }).add (0)) <| fun (m9 : Sl) =>
                 .dcall (true) 16 [.slice r8.a r8.len r8.cap, .slice m9.a m9.len m9.cap] .bool <| fun (r10 : Bool) =>
                  .cond (!r10) (
                   .pop <|
                   .ret (.bool false)) (
                   .call 17 [.slice r8.a r8.len r8.cap] (.tup .unit) <| fun (r11 : Unit) =>
                    .again (.pair (.int .i64) .unit) (IntKind.i64.wrap (v2.1 + (1 : Int)), ()))))) (
          .cond (bitsI BinOp.and IntKind.i64 m4 (3 : Int) == (2 : Int)) (
           .call 11 [.pointer r0, .int .i64 (IntKind.i64.wrap (bitsI BinOp.and IntKind.i64 (m3.fdiv ((2 : Int) ^ min (Int.toNat (2 : Int)) IntKind.i64.bits)) (63 : Int) - (8 : Int)))] (.tup (.pair .str (.int .i64))) <| fun (r5 : (ByteArray × Int)) =>
            .call 12 [.pointer (some ⟨n1, 0, none⟩), .int .i64 (IntKind.i64.wrap (bitsI BinOp.and IntKind.i64 (m3.fdiv ((2 : Int) ^ min (Int.toNat (2 : Int)) IntKind.i64.bits)) (63 : Int) - (8 : Int)))] (.tup (.pair .str (.int .i64))) <| fun (r6 : (ByteArray × Int)) =>
             .dcall (!!ByteArray.toList r5.1 == ByteArray.toList r6.1) 8 [.int .i64 r5.2] (.int .i64) <| fun (r7 : Int) =>
              .cond (bif !ByteArray.toList r5.1 == ByteArray.toList r6.1 then true else r7 != r6.2) (
               .pop <|
               .ret (.bool false)) (
               .call 15 [.pointer r0] .slice <| fun (r8 : Sl) =>
                .must (true = true → (some (⟨n1, 0, none⟩ : Addr)).isSome = true) <|
                .load (true) .slice (((some (⟨n1, 0, none⟩ : Addr)).getD { block := 0, off := 0 }).add (0)) <| fun (m9 : Sl) =>
                 .dcall (true) 16 [.slice r8.a r8.len r8.cap, .slice m9.a m9.len m9.cap] .bool <| fun (r10 : Bool) =>
                  .cond (!r10) (
                   .pop <|
                   .ret (.bool false)) (
                   .call 17 [.slice r8.a r8.len r8.cap] (.tup .unit) <| fun (r11 : Unit) =>
                    .again (.pair (.int .i64) .unit) (IntKind.i64.wrap (v2.1 + (1 : Int)), ())))) (
           .call 13 [.pointer r0, .int .i64 (IntKind.i64.wrap (bitsI BinOp.and IntKind.i64 (m3.fdiv ((2 : Int) ^ min (Int.toNat (2 : Int)) IntKind.i64.bits)) (63 : Int) - (8 : Int)))] (.int .i64) <| fun (r5 : Int) =>
            .dcall (true) 8 [.int .i64 r5] (.int .i64) <| fun (r6 : Int) =>
             .call 14 [.pointer (some ⟨n1, 0, none⟩), .int .i64 (IntKind.i64.wrap (bitsI BinOp.and IntKind.i64 (m3.fdiv ((2 : Int) ^ min (Int.toNat (2 : Int)) IntKind.i64.bits)) (63 : Int) - (8 : Int)))] (.int .i64) <| fun (r7 : Int) =>
              .cond (r6 != r7) (
               .pop <|
               .ret (.bool false)) (
               .call 15 [.pointer r0] .slice <| fun (r8 : Sl) =>
                .must (true = true → (some (⟨n1, 0, none⟩ : Addr)).isSome = true) <|
                .load (true) .slice (((some (⟨n1, 0, none⟩ : Addr)).getD { block := 0, off := 0 }).add (0)) <| fun (m9 : Sl) =>
                 .dcall (true) 16 [.slice r8.a r8.len r8.cap, .slice m9.a m9.len m9.cap] .bool <| fun (r10 : Bool) =>
                  .cond (!r10) (
                   .pop <|
                   .ret (.bool false)) (
                   .call 17 [.slice r8.a r8.len r8.cap] (.tup .unit) <| fun (r11 : Unit) =>
                    .again (.pair (.int .i64) .unit) (IntKind.i64.wrap (v2.1 + (1 : Int)), ())))))) (
         .cond (bitsI BinOp.and IntKind.i64 m4 (3 : Int) == (1 : Int)) (
          .cond (decide ((↑x0.len : Int) > (0 : Int))) (
           .must (true = true → (↑x0.len : Int) ≠ (0 : Int)) <|
           .must (true = true → (0 : Int) ≤ v2.1.tmod (↑x0.len : Int) ∧ v2.1.tmod (↑x0.len : Int) < (↑x0.len : Int) ∧ x0.a.isSome = true) <|
           .load (true) .str ((x0.a.getD { block := 0, off := 0 }).add ((v2.1.tmod (↑x0.len : Int)).toNat * 1)) <| fun (m5 : ByteArray) =>
            .call 9 [.pointer r0, .string m5] (.int .i64) <| fun (r6 : Int) =>
             .dcall (true) 8 [.int .i64 r6] (.int .i64) <| fun (r7 : Int) =>
              .call 10 [.pointer (some ⟨n1, 0, none⟩), .string m5] (.int .i64) <| fun (r8 : Int) =>
               .cond (r7 != r8) (
                .pop <|
                .ret (.bool false)) (
                .call 15 [.pointer r0] .slice <| fun (r9 : Sl) =>
                 .must (true = true → (some (⟨n1, 0, none⟩ : Addr)).isSome = true) <|
                 .load (true) .slice (((some (⟨n1, 0, none⟩ : Addr)).getD { block := 0, off := 0 }).add (0)) <| fun (m10 : Sl) =>
                  .dcall (true) 16 [.slice r9.a r9.len r9.cap, .slice m10.a m10.len m10.cap] .bool <| fun (r11 : Bool) =>
                   .cond (!r11) (
                    .pop <|
                    .ret (.bool false)) (
                    .call 17 [.slice r9.a r9.len r9.cap] (.tup .unit) <| fun (r12 : Unit) =>
                     .again (.pair (.int .i64) .unit) (IntKind.i64.wrap (v2.1 + (1 : Int)), ())))) (
           .call 9 [.pointer r0, .string ((⟨#[(122 : UInt8)]⟩ : ByteArray))] (.int .i64) <| fun (r5 : Int) =>
            .dcall (true) 8 [.int .i64 r5] (.int .i64) <| fun (r6 : Int) =>
             .call 10 [.pointer (some ⟨n1, 0, none⟩), .string ((⟨#[(122 : UInt8)]⟩ : ByteArray))] (.int .i64) <| fun (r7 : Int) =>
              .cond (r6 != r7) (
               .pop <|
               .ret (.bool false)) (
               .call 15 [.pointer r0] .slice <| fun (r8 : Sl) =>
                .must (true = true → (some (⟨n1, 0, none⟩ : Addr)).isSome = true) <|
                .load (true) .slice (((some (⟨n1, 0, none⟩ : Addr)).getD { block := 0, off := 0 }).add (0)) <| fun (m9 : Sl) =>
                 .dcall (true) 16 [.slice r8.a r8.len r8.cap, .slice m9.a m9.len m9.cap] .bool <| fun (r10 : Bool) =>
                  .cond (!r10) (
                   .pop <|
                   .ret (.bool false)) (
                   .call 17 [.slice r8.a r8.len r8.cap] (.tup .unit) <| fun (r11 : Unit) =>
                    .again (.pair (.int .i64) .unit) (IntKind.i64.wrap (v2.1 + (1 : Int)), ()))))) (
          .cond (bitsI BinOp.and IntKind.i64 m4 (3 : Int) == (2 : Int)) (
           .call 11 [.pointer r0, .int .i64 (IntKind.i64.wrap (bitsI BinOp.and IntKind.i64 (m3.fdiv ((2 : Int) ^ min (Int.toNat (2 : Int)) IntKind.i64.bits)) (63 : Int) - (8 : Int)))] (.tup (.pair .str (.int .i64))) <| fun (r5 : (ByteArray × Int)) =>
            .call 12 [.pointer (some ⟨n1, 0, none⟩), .int .i64 (IntKind.i64.wrap (bitsI BinOp.and IntKind.i64 (m3.fdiv ((2 : Int) ^ min (Int.toNat (2 : Int)) IntKind.i64.bits)) (63 : Int) - (8 : Int)))] (.tup (.pair .str (.int .i64))) <| fun (r6 : (ByteArray × Int)) =>
             .dcall (!!ByteArray.toList r5.1 == ByteArray.toList r6.1) 8 [.int .i64 r5.2] (.int .i64) <| fun (r7 : Int) =>
              .cond (bif !ByteArray.toList r5.1 == ByteArray.toList r6.1 then true else r7 != r6.2) (
               .pop <|
               .ret (.bool false)) (
               .call 15 [.pointer r0] .slice <| fun (r8 : Sl) =>
                .must (true = true → (some (⟨n1, 0, none⟩ : Addr)).isSome = true) <|
                .load (true) .slice (((some (⟨n1, 0, none⟩ : Addr)).getD { block := 0, off := 0 }).add (0)) <| fun (m9 : Sl) =>
                 .dcall (true) 16 [.slice r8.a r8.len r8.cap, .slice m9.a m9.len m9.cap] .bool <| fun (r10 : Bool) =>
                  .cond (!r10) (
                   .pop <|
                   .ret (.bool false)) (
                   .call 17 [.slice r8.a r8.len r8.cap] (.tup .unit) <| fun (r11 : Unit) =>
                    .again (.pair (.int .i64) .unit) (IntKind.i64.wrap (v2.1 + (1 : Int)), ())))) (
           .call 13 [.pointer r0, .int .i64 (IntKind.i64.wrap (bitsI BinOp.and IntKind.i64 (m3.fdiv ((2 : Int) ^ min (Int.toNat (2 : Int)) IntKind.i64.bits)) (63 : Int) - (8 : Int)))] (.int .i64) <| fun (r5 : Int) =>
            .dcall (true) 8 [.int .i64 r5] (.int .i64) <| fun (r6 : Int) =>
             .call 14 [.pointer (some ⟨n1, 0, none⟩), .int .i64 (IntKind.i64.wrap (bitsI BinOp.and IntKind.i64 (m3.fdiv ((2 : Int) ^ min (Int.toNat (2 : Int)) IntKind.i64.bits)) (63 : Int) - (8 : Int)))] (.int .i64) <| fun (r7 : Int) =>
              .cond (r6 != r7) (
               .pop <|
               .ret (.bool false)) (
               .call 15 [.pointer r0] .slice <| fun (r8 : Sl) =>
                .must (true = true → (some (⟨n1, 0, none⟩ : Addr)).isSome = true) <|
                .load (true) .slice (((some (⟨n1, 0, none⟩ : Addr)).getD { block := 0, off := 0 }).add (0)) <| fun (m9 : Sl) =>
                 .dcall (true) 16 [.slice r8.a r8.len r8.cap, .slice m9.a m9.len m9.cap] .bool <| fun (r10 : Bool) =>
                  .cond (!r10) (
                   .pop <|
                   .ret (.bool false)) (
                   .call 17 [.slice r8.a r8.len r8.cap] (.tup .unit) <| fun (r11 : Unit) =>
                    .again (.pair (.int .i64) .unit) (IntKind.i64.wrap (v2.1 + (1 : Int)), ()))))))) (
      .pop <|
      .dcall (true) 18 [] .bool <| fun (r3 : Bool) =>
       .ret (.bool r3)))
noncomputable def fx3 : Fx := { loops := fun n => match n with | 6 => ⟨[.slot 7 ((.int .i64))], [0, 1, 5, 6], []⟩ | _ => ⟨[], [], []⟩, esc := fun n => memN n [17], own := fun n => memN n [] }
theorem T3_eq (x0 : Sl) (x1 : Sl) : evFn cx fx3 Try.f3 [.slice x0.a x0.len x0.cap, .slice x1.a x1.len x1.cap] = T3 x0 x1 := by kernel_rfl

/-- wharfage/wharfagelaw22.NetRow -/
def T4 (x0 : Sl) : T :=
 .dcall (true) 18 [] .bool <| fun (r0 : Bool) =>
  .cond (!r0) (
   .ret (.bool false)) (
   .call 7 [] .ptr <| fun (r1 : Option Addr) =>
    .cond (Option.isNone r1) (
     .ret (.bool false)) (
     .loop (.pair .slice (.pair (.int .i64) .unit)) (⟨none, 0, 0⟩, ((0 : Int), ())) <| fun (v2 : (Sl × (Int × Unit))) =>
      .cond (bif decide (v2.2.1 < (↑x0.len : Int)) then decide (v2.2.1 < (60 : Int)) else false) (
       .must (true = true → (0 : Int) ≤ v2.2.1 ∧ v2.2.1 < (↑x0.len : Int) ∧ x0.a.isSome = true) <|
       .load (true) (.int .i64) ((x0.a.getD { block := 0, off := 0 }).add (v2.2.1.toNat * 1)) <| fun (m3 : Int) =>
        .must (true = true → (0 : Int) ≤ (2 : Int)) <|
        .must (true = true → (0 : Int) ≤ v2.2.1 ∧ v2.2.1 < (↑x0.len : Int) ∧ x0.a.isSome = true) <|
        .load (true) (.int .i64) ((x0.a.getD { block := 0, off := 0 }).add (v2.2.1.toNat * 1)) <| fun (m4 : Int) =>
         .cond (bitsI BinOp.and IntKind.i64 m4 (3 : Int) == (0 : Int)) (
          .cond (bitsI BinOp.and IntKind.i64 m4 (3 : Int) == (0 : Int)) (
           .lit (true) [.int .u8 (IntKind.u8.wrap v2.2.1)] 5 <| fun (n5 : Nat) =>
            .loadStr (some { block := n5, off := 0 }) (1) <| fun (s6 : ByteArray) =>
             .call 9 [.pointer r1, .string s6] (.int .i64) <| fun (r7 : Int) =>
              .dcall (true) 8 [.int .i64 r7] (.int .i64) <| fun (r8 : Int) =>
               .cond (!(r8 == (0 : Int)) == decide ((↑v2.1.len : Int) < (32 : Int))) (
                .pop <|
                .ret (.bool false)) (
                .cond (r8 == (0 : Int)) (
                 .lit (true) [.string s6] 9 <| fun (n9 : Nat) =>
                  .append 9 1 16 v2.1 ⟨(some ⟨n9, 0, none⟩), 1, 1⟩ <| fun (q10 : Sl) =>
                   .call 15 [.pointer r1] .slice <| fun (r11 : Sl) =>
                    .dcall (true) 16 [.slice r11.a r11.len r11.cap, .slice q10.a q10.len q10.cap] .bool <| fun (r12 : Bool) =>
                     .cond (!r12) (
                      .pop <|
                      .ret (.bool false)) (
                      .again (.pair .slice (.pair (.int .i64) .unit)) (q10, (IntKind.i64.wrap (v2.2.1 + (1 : Int)), ())))) (
                 .call 15 [.pointer r1] .slice <| fun (r9 : Sl) =>
                  .dcall (true) 16 [.slice r9.a r9.len r9.cap, .slice v2.1.a v2.1.len v2.1.cap] .bool <| fun (r10 : Bool) =>
                   .cond (!r10) (
                    .pop <|
                    .ret (.bool false)) (
                    .again (.pair .slice (.pair (.int .i64) .unit)) (v2.1, (IntKind.i64.wrap (v2.2.1 + (1 : Int)), ())))))) (
           .cond (bitsI BinOp.and IntKind.i64 m4 (3 : Int) == (2 : Int)) (
            .call 11 [.pointer r1, .int .i64 (bitsI BinOp.and IntKind.i64 (m3.fdiv ((2 : Int) ^ min (Int.toNat (2 : Int)) IntKind.i64.bits)) (31 : Int))] (.tup (.pair .str (.int .i64))) <| fun (r5 : (ByteArray × Int)) =>
             .dcall (true) 8 [.int .i64 r5.2] (.int .i64) <| fun (r6 : Int) =>
              .cond (!(r6 == (0 : Int)) == decide (bitsI BinOp.and IntKind.i64 (m3.fdiv ((2 : Int) ^ min (Int.toNat (2 : Int)) IntKind.i64.bits)) (31 : Int) < (↑v2.1.len : Int))) (
               .pop <|
               .ret (.bool false)) (
               .cond (decide (bitsI BinOp.and IntKind.i64 (m3.fdiv ((2 : Int) ^ min (Int.toNat (2 : Int)) IntKind.i64.bits)) (31 : Int) < (↑v2.1.len : Int))) (
                .must (true = true → (0 : Int) ≤ bitsI BinOp.and IntKind.i64 (m3.fdiv ((2 : Int) ^ min (Int.toNat (2 : Int)) IntKind.i64.bits)) (31 : Int) ∧ bitsI BinOp.and IntKind.i64 (m3.fdiv ((2 : Int) ^ min (Int.toNat (2 : Int)) IntKind.i64.bits)) (31 : Int) < (↑v2.1.len : Int) ∧ v2.1.a.isSome = true) <|
                .load (true) .str ((v2.1.a.getD { block := 0, off := 0 }).add ((bitsI BinOp.and IntKind.i64 (m3.fdiv ((2 : Int) ^ min (Int.toNat (2 : Int)) IntKind.i64.bits)) (31 : Int)).toNat * 1)) <| fun (m7 : ByteArray) =>
                 .cond (!ByteArray.toList r5.1 == ByteArray.toList m7) (
                  .pop <|
                  .ret (.bool false)) (
                  .lit (true) [] 9 <| fun (n8 : Nat) =>
                   .must (true = true → ((0 : Int) ≤ bitsI BinOp.and IntKind.i64 (m3.fdiv ((2 : Int) ^ min (Int.toNat (2 : Int)) IntKind.i64.bits)) (31 : Int) ∧ bitsI BinOp.and IntKind.i64 (m3.fdiv ((2 : Int) ^ min (Int.toNat (2 : Int)) IntKind.i64.bits)) (31 : Int) ≤ (↑v2.1.cap : Int)) ∧ True) <|
                   .append 9 1 16 ⟨(some ⟨n8, 0, none⟩), 0, 0⟩ ⟨(if v2.1.cap = 0 then v2.1.a else Option.map (fun x => x.add (0 * 1)) v2.1.a), (bitsI BinOp.and IntKind.i64 (m3.fdiv ((2 : Int) ^ min (Int.toNat (2 : Int)) IntKind.i64.bits)) (31 : Int)).toNat - 0, v2.1.cap - 0⟩ <| fun (q9 : Sl) =>
                    .must (true = true → True ∧ (0 : Int) ≤ IntKind.i64.wrap (bitsI BinOp.and IntKind.i64 (m3.fdiv ((2 : Int) ^ min (Int.toNat (2 : Int)) IntKind.i64.bits)) (31 : Int) + (1 : Int)) ∧ IntKind.i64.wrap (bitsI BinOp.and IntKind.i64 (m3.fdiv ((2 : Int) ^ min (Int.toNat (2 : Int)) IntKind.i64.bits)) (31 : Int) + (1 : Int)) ≤ (↑v2.1.len : Int)) <|
                    .append 9 1 16 q9 ⟨(if v2.1.cap = (IntKind.i64.wrap (bitsI BinOp.and IntKind.i64 (m3.fdiv ((2 : Int) ^ min (Int.toNat (2 : Int)) IntKind.i64.bits)) (31 : Int) + (1 : Int))).toNat then v2.1.a else Option.map (fun x => x.add ((IntKind.i64.wrap (bitsI BinOp.and IntKind.i64 (m3.fdiv ((2 : Int) ^ min (Int.toNat (2 : Int)) IntKind.i64.bits)) (31 : Int) + (1 : Int))).toNat * 1)) v2.1.a), v2.1.len - (IntKind.i64.wrap (bitsI BinOp.and IntKind.i64 (m3.fdiv ((2 : Int) ^ min (Int.toNat (2 : Int)) IntKind.i64.bits)) (31 : Int) + (1 : Int))).toNat, v2.1.cap - (IntKind.i64.wrap (bitsI BinOp.and IntKind.i64 (m3.fdiv ((2 : Int) ^ min (Int.toNat (2 : Int)) IntKind.i64.bits)) (31 : Int) + (1 : Int))).toNat⟩ <| fun (q10 : Sl) =>
                     .call 15 [.pointer r1] .slice <| fun (r11 : Sl) =>
                      .dcall (true) 16 [.slice r11.a r11.len r11.cap, .slice q10.a q10.len q10.cap] .bool <| fun (r12 : Bool) =>
                       .cond (!r12) (
                        .pop <|
                        .ret (.bool false)) (
                        .again (.pair .slice (.pair (.int .i64) .unit)) (q10, (IntKind.i64.wrap (v2.2.1 + (1 : Int)), ()))))) (
                .call 15 [.pointer r1] .slice <| fun (r7 : Sl) =>
                 .dcall (true) 16 [.slice r7.a r7.len r7.cap, .slice v2.1.a v2.1.len v2.1.cap] .bool <| fun (r8 : Bool) =>
                  .cond (!r8) (
                   .pop <|
                   .ret (.bool false)) (
                   .again (.pair .slice (.pair (.int .i64) .unit)) (v2.1, (IntKind.i64.wrap (v2.2.1 + (1 : Int)), ())))))) (
            .call 13 [.pointer r1, .int .i64 (bitsI BinOp.and IntKind.i64 (m3.fdiv ((2 : Int) ^ min (Int.toNat (2 : Int)) IntKind.i64.bits)) (31 : Int))] (.int .i64) <| fun (r5 : Int) =>
             .dcall (true) 8 [.int .i64 r5] (.int .i64) <| fun (r6 : Int) =>
              .cond (!(r6 == (0 : Int)) == bif decide (bitsI BinOp.and IntKind.i64 (m3.fdiv ((2 : Int) ^ min (Int.toNat (2 : Int)) IntKind.i64.bits)) (31 : Int) < (↑v2.1.len : Int)) then decide ((↑v2.1.len : Int) < (32 : Int)) else false) (
               .pop <|
               .ret (.bool false)) (
               .cond (r6 == (0 : Int)) (
                .must (true = true → (0 : Int) ≤ bitsI BinOp.and IntKind.i64 (m3.fdiv ((2 : Int) ^ min (Int.toNat (2 : Int)) IntKind.i64.bits)) (31 : Int) ∧ bitsI BinOp.and IntKind.i64 (m3.fdiv ((2 : Int) ^ min (Int.toNat (2 : Int)) IntKind.i64.bits)) (31 : Int) < (↑v2.1.len : Int) ∧ v2.1.a.isSome = true) <|
                .load (true) .str ((v2.1.a.getD { block := 0, off := 0 }).add ((bitsI BinOp.and IntKind.i64 (m3.fdiv ((2 : Int) ^ min (Int.toNat (2 : Int)) IntKind.i64.bits)) (31 : Int)).toNat * 1)) <| fun (m7 : ByteArray) =>
                 .lit (true) [.string m7] 9 <| fun (n8 : Nat) =>
                  .append 9 1 16 v2.1 ⟨(some ⟨n8, 0, none⟩), 1, 1⟩ <| fun (q9 : Sl) =>
                   .call 15 [.pointer r1] .slice <| fun (r10 : Sl) =>
                    .dcall (true) 16 [.slice r10.a r10.len r10.cap, .slice q9.a q9.len q9.cap] .bool <| fun (r11 : Bool) =>
                     .cond (!r11) (
                      .pop <|
                      .ret (.bool false)) (
                      .again (.pair .slice (.pair (.int .i64) .unit)) (q9, (IntKind.i64.wrap (v2.2.1 + (1 : Int)), ())))) (
                .call 15 [.pointer r1] .slice <| fun (r7 : Sl) =>
                 .dcall (true) 16 [.slice r7.a r7.len r7.cap, .slice v2.1.a v2.1.len v2.1.cap] .bool <| fun (r8 : Bool) =>
                  .cond (!r8) (
                   .pop <|
                   .ret (.bool false)) (
                   .again (.pair .slice (.pair (.int .i64) .unit)) (v2.1, (IntKind.i64.wrap (v2.2.1 + (1 : Int)), ())))))))) (
          .cond (bitsI BinOp.and IntKind.i64 m4 (3 : Int) == (1 : Int)) (
           .lit (true) [.int .u8 (IntKind.u8.wrap v2.2.1)] 5 <| fun (n5 : Nat) =>
            .loadStr (some { block := n5, off := 0 }) (1) <| fun (s6 : ByteArray) =>
             .call 9 [.pointer r1, .string s6] (.int .i64) <| fun (r7 : Int) =>
              .dcall (true) 8 [.int .i64 r7] (.int .i64) <| fun (r8 : Int) =>
               .cond (!(r8 == (0 : Int)) == decide ((↑v2.1.len : Int) < (32 : Int))) (
                .pop <|
                .ret (.bool false)) (
                .cond (r8 == (0 : Int)) (
                 .lit (true) [.string s6] 9 <| fun (n9 : Nat) =>
                  .append 9 1 16 v2.1 ⟨(some ⟨n9, 0, none⟩), 1, 1⟩ <| fun (q10 : Sl) =>
                   .call 15 [.pointer r1] .slice <| fun (r11 : Sl) =>
                    .dcall (true) 16 [.slice r11.a r11.len r11.cap, .slice q10.a q10.len q10.cap] .bool <| fun (r12 : Bool) =>
                     .cond (!r12) (
                      .pop <|
                      .ret (.bool false)) (
                      .again (.pair .slice (.pair (.int .i64) .unit)) (q10, (IntKind.i64.wrap (v2.2.1 + (1 : Int)), ())))) (
                 .call 15 [.pointer r1] .slice <| fun (r9 : Sl) =>
                  .dcall (true) 16 [.slice r9.a r9.len r9.cap, .slice v2.1.a v2.1.len v2.1.cap] .bool <| fun (r10 : Bool) =>
                   .cond (!r10) (
                    .pop <|
                    .ret (.bool false)) (
                    .again (.pair .slice (.pair (.int .i64) .unit)) (v2.1, (IntKind.i64.wrap (v2.2.1 + (1 : Int)), ())))))) (
           .cond (bitsI BinOp.and IntKind.i64 m4 (3 : Int) == (2 : Int)) (
            .call 11 [.pointer r1, .int .i64 (bitsI BinOp.and IntKind.i64 (m3.fdiv ((2 : Int) ^ min (Int.toNat (2 : Int)) IntKind.i64.bits)) (31 : Int))] (.tup (.pair .str (.int .i64))) <| fun (r5 : (ByteArray × Int)) =>
             .dcall (true) 8 [.int .i64 r5.2] (.int .i64) <| fun (r6 : Int) =>
              .cond (!(r6 == (0 : Int)) == decide (bitsI BinOp.and IntKind.i64 (m3.fdiv ((2 : Int) ^ min (Int.toNat (2 : Int)) IntKind.i64.bits)) (31 : Int) < (↑v2.1.len : Int))) (
               .pop <|
               .ret (.bool false)) (
               .cond (decide (bitsI BinOp.and IntKind.i64 (m3.fdiv ((2 : Int) ^ min (Int.toNat (2 : Int)) IntKind.i64.bits)) (31 : Int) < (↑v2.1.len : Int))) (
                .must (true = true → (0 : Int) ≤ bitsI BinOp.and IntKind.i64 (m3.fdiv ((2 : Int) ^ min (Int.toNat (2 : Int)) IntKind.i64.bits)) (31 : Int) ∧ bitsI BinOp.and IntKind.i64 (m3.fdiv ((2 : Int) ^ min (Int.toNat (2 : Int)) IntKind.i64.bits)) (31 : Int) < (↑v2.1.len : Int) ∧ v2.1.a.isSome = true) <|
                .load (true) .str ((v2.1.a.getD { block := 0, off := 0 }).add ((bitsI BinOp.and IntKind.i64 (m3.fdiv ((2 : Int) ^ min (Int.toNat (2 : Int)) IntKind.i64.bits)) (31 : Int)).toNat * 1)) <| fun (m7 : ByteArray) =>
                 .cond (!ByteArray.toList r5.1 == ByteArray.toList m7) (
                  .pop <|
                  .ret (.bool false)) (
                  .lit (true) [] 9 <| fun (n8 : Nat) =>
                   .must (true = true → ((0 : Int) ≤ bitsI BinOp.and IntKind.i64 (m3.fdiv ((2 : Int) ^ min (Int.toNat (2 : Int)) IntKind.i64.bits)) (31 : Int) ∧ bitsI BinOp.and IntKind.i64 (m3.fdiv ((2 : Int) ^ min (Int.toNat (2 : Int)) IntKind.i64.bits)) (31 : Int) ≤ (↑v2.1.cap : Int)) ∧ True) <|
                   .append 9 1 16 ⟨(some ⟨n8, 0, none⟩), 0, 0⟩ ⟨(if v2.1.cap = 0 then v2.1.a else Option.map (fun x => x.add (0 * 1)) v2.1.a), (bitsI BinOp.and IntKind.i64 (m3.fdiv ((2 : Int) ^ min (Int.toNat (2 : Int)) IntKind.i64.bits)) (31 : Int)).toNat - 0, v2.1.cap - 0⟩ <| fun (q9 : Sl) =>
                    .must (true = true → True ∧ (0 : Int) ≤ IntKind.i64.wrap (bitsI BinOp.and IntKind.i64 (m3.fdiv ((2 : Int) ^ min (Int.toNat (2 : Int)) IntKind.i64.bits)) (31 : Int) + (1 : Int)) ∧ IntKind.i64.wrap (bitsI BinOp.and IntKind.i64 (m3.fdiv ((2 : Int) ^ min (Int.toNat (2 : Int)) IntKind.i64.bits)) (31 : Int) + (1 : Int)) ≤ (↑v2.1.len : Int)) <|
                    .append 9 1 16 q9 ⟨(if v2.1.cap = (IntKind.i64.wrap (bitsI BinOp.and IntKind.i64 (m3.fdiv ((2 : Int) ^ min (Int.toNat (2 : Int)) IntKind.i64.bits)) (31 : Int) + (1 : Int))).toNat then v2.1.a else Option.map (fun x => x.add ((IntKind.i64.wrap (bitsI BinOp.and IntKind.i64 (m3.fdiv ((2 : Int) ^ min (Int.toNat (2 : Int)) IntKind.i64.bits)) (31 : Int) + (1 : Int))).toNat * 1)) v2.1.a), v2.1.len - (IntKind.i64.wrap (bitsI BinOp.and IntKind.i64 (m3.fdiv ((2 : Int) ^ min (Int.toNat (2 : Int)) IntKind.i64.bits)) (31 : Int) + (1 : Int))).toNat, v2.1.cap - (IntKind.i64.wrap (bitsI BinOp.and IntKind.i64 (m3.fdiv ((2 : Int) ^ min (Int.toNat (2 : Int)) IntKind.i64.bits)) (31 : Int) + (1 : Int))).toNat⟩ <| fun (q10 : Sl) =>
                     .call 15 [.pointer r1] .slice <| fun (r11 : Sl) =>
                      .dcall (true) 16 [.slice r11.a r11.len r11.cap, .slice q10.a q10.len q10.cap] .bool <| fun (r12 : Bool) =>
                       .cond (!r12) (
                        .pop <|
                        .ret (.bool false)) (
                        .again (.pair .slice (.pair (.int .i64) .unit)) (q10, (IntKind.i64.wrap (v2.2.1 + (1 : Int)), ()))))) (
                .call 15 [.pointer r1] .slice <| fun (r7 : Sl) =>
                 .dcall (true) 16 [.slice r7.a r7.len r7.cap, .slice v2.1.a v2.1.len v2.1.cap] .bool <| fun (r8 : Bool) =>
                  .cond (!r8) (
                   .pop <|
                   .ret (.bool false)) (
                   .again (.pair .slice (.pair (.int .i64) .unit)) (v2.1, (IntKind.i64.wrap (v2.2.1 + (1 : Int)), ())))))) (
            .call 13 [.pointer r1, .int .i64 (bitsI BinOp.and IntKind.i64 (m3.fdiv ((2 : Int) ^ min (Int.toNat (2 : Int)) IntKind.i64.bits)) (31 : Int))] (.int .i64) <| fun (r5 : Int) =>
             .dcall (true) 8 [.int .i64 r5] (.int .i64) <| fun (r6 : Int) =>
              .cond (!(r6 == (0 : Int)) == bif decide (bitsI BinOp.and IntKind.i64 (m3.fdiv ((2 : Int) ^ min (Int.toNat (2 : Int)) IntKind.i64.bits)) (31 : Int) < (↑v2.1.len : Int)) then decide ((↑v2.1.len : Int) < (32 : Int)) else false) (
               .pop <|
               .ret (.bool false)) (
               .cond (r6 == (0 : Int)) (
                .must (true = true → (0 : Int) ≤ bitsI BinOp.and IntKind.i64 (m3.fdiv ((2 : Int) ^ min (Int.toNat (2 : Int)) IntKind.i64.bits)) (31 : Int) ∧ bitsI BinOp.and IntKind.i64 (m3.fdiv ((2 : Int) ^ min (Int.toNat (2 : Int)) IntKind.i64.bits)) (31 : Int) < (↑v2.1.len : Int) ∧ v2.1.a.isSome = true) <|
                .load (true) .str ((v2.1.a.getD { block := 0, off := 0 }).add ((bitsI BinOp.and IntKind.i64 (m3.fdiv ((2 : Int) ^ min (Int.toNat (2 : Int)) IntKind.i64.bits)) (31 : Int)).toNat * 1)) <| fun (m7 : ByteArray) =>
                 .lit (true) [.string m7] 9 <| fun (n8 : Nat) =>
                  .append 9 1 16 v2.1 ⟨(some ⟨n8, 0, none⟩), 1, 1⟩ <| fun (q9 : Sl) =>
                   .call 15 [.pointer r1] .slice <| fun (r10 : Sl) =>
                    .dcall (true) 16 [.slice r10.a r10.len r10.cap, .slice q9.a q9.len q9.cap] .bool <| fun (r11 : Bool) =>
                     .cond (!r11) (
                      .pop <|
                      .ret (.bool false)) (
                      .again (.pair .slice (.pair (.int .i64) .unit)) (q9, (IntKind.i64.wrap (v2.2.1 + (1 : Int)), ())))) (
                .call 15 [.pointer r1] .slice <| fun (r7 : Sl) =>
                 .dcall (true) 16 [.slice r7.a r7.len r7.cap, .slice v2.1.a v2.1.len v2.1.cap] .bool <| fun (r8 : Bool) =>
                  .cond (!r8) (
                   .pop <|
                   .ret (.bool false)) (
                   .again (.pair .slice (.pair (.int .i64) .unit)) (v2.1, (IntKind.i64.wrap (v2.2.1 + (1 : Int)), ()))))))))) (
       .pop <|
       .ret (.bool true))))
noncomputable def fx4 : Fx := { loops := fun n => match n with | 8 => ⟨[.slot 4 (.slice), .slot 5 ((.int .i64))], [0, 3], []⟩ | _ => ⟨[], [], []⟩, esc := fun n => memN n [], own := fun n => memN n [] }
theorem T4_eq (x0 : Sl) : evFn cx fx4 Try.f4 [.slice x0.a x0.len x0.cap] = T4 x0 := by kernel_rfl

/-- wharfage/wharfagelaw22.NetForms -/
def T5 (x0 : Int) : T :=
 .dcall (true) 18 [] .bool <| fun (r0 : Bool) =>
  .cond (!r0) (
   .ret (.bool false)) (
   .call 7 [] .ptr <| fun (r1 : Option Addr) =>
    .cond (Option.isNone r1) (
     .ret (.bool false)) (
     .must ((0 : Int) ≤ IntKind.i64.wrap ((512 : Int) + IntKind.i64.wrap ((1 : Int) + bitsI BinOp.and IntKind.i64 x0 (1023 : Int))) ∧ IntKind.i64.wrap ((512 : Int) + IntKind.i64.wrap ((1 : Int) + bitsI BinOp.and IntKind.i64 x0 (1023 : Int))) ≤ IntKind.i64.wrap ((512 : Int) + IntKind.i64.wrap ((1 : Int) + bitsI BinOp.and IntKind.i64 x0 (1023 : Int))) ∧ IntKind.i64.wrap ((512 : Int) + IntKind.i64.wrap ((1 : Int) + bitsI BinOp.and IntKind.i64 x0 (1023 : Int))) * (↑(cx.P.bytesOf 5) : Int) ≤ (140737488355328 : Int) ∧ IntKind.i64.wrap ((512 : Int) + IntKind.i64.wrap ((1 : Int) + bitsI BinOp.and IntKind.i64 x0 (1023 : Int))) ≤ (140737488355328 : Int)) <|
     .new (repeatL (Value.int IntKind.u8 (0 : Int)).cells.toList (IntKind.i64.wrap ((512 : Int) + IntKind.i64.wrap ((1 : Int) + bitsI BinOp.and IntKind.i64 x0 (1023 : Int)))).toNat) 5 <| fun (n2 : Nat) =>
      .loadStr (some { block := n2, off := 0 }) ((IntKind.i64.wrap ((512 : Int) + IntKind.i64.wrap ((1 : Int) + bitsI BinOp.and IntKind.i64 x0 (1023 : Int)))).toNat) <| fun (s3 : ByteArray) =>
       .call 9 [.pointer r1, .string s3] (.int .i64) <| fun (r4 : Int) =>
        .must ((0 : Int) ≤ (512 : Int) ∧ (512 : Int) ≤ (512 : Int) ∧ (512 : Int) * (↑(cx.P.bytesOf 5) : Int) ≤ (140737488355328 : Int) ∧ (512 : Int) ≤ (140737488355328 : Int)) <|
        .new [.int .u8 ((0 : Int)), .int .u8 ((0 : Int)), .int .u8 ((0 : Int)), .int .u8 ((0 : Int)), .int .u8 ((0 : Int)), .int .u8 ((0 : Int)), .int .u8 ((0 : Int)), .int .u8 ((0 : Int)), .int .u8 ((0 : Int)), .int .u8 ((0 : Int)), .int .u8 ((0 : Int)), .int .u8 ((0 : Int)), .int .u8 ((0 : Int)), .int .u8 ((0 : Int)), .int .u8 ((0 : Int)), .int .u8 ((0 : Int)), .int .u8 ((0 : Int)), .int .u8 ((0 : Int)), .int .u8 ((0 : Int)), .int .u8 ((0 : Int)), .int .u8 ((0 : Int)), .int .u8 ((0 : Int)), .int .u8 ((0 : Int)), .int .u8 ((0 : Int)), .int .u8 ((0 : Int)), .int .u8 ((0 : Int)), .int .u8 ((0 : Int)), .int .u8 ((0 : Int)), .int .u8 ((0 : Int)), .int .u8 ((0 : Int)), .int .u8 ((0 : Int)), .int .u8 ((0 : Int)), .int .u8 ((0 : Int)), .int .u8 ((0 : Int)), .int .u8 ((0 : Int)), .int .u8 ((0 : Int)), .int .u8 ((0 : Int)), .int .u8 ((0 : Int)), .int .u8 ((0 : Int)), .int .u8 ((0 : Int)), .int .u8 ((0 : Int)), .int .u8 ((0 : Int)), .int .u8 ((0 : Int)), .int .u8 ((0 : Int)), .int .u8 ((0 : Int)), .int .u8 ((0 : Int)), .int .u8 ((0 : Int)), .int .u8 ((0 : Int)), .int .u8 ((0 : Int)), .int .u8 ((0 : Int)), .int .u8 ((0 : Int)), .int .u8 ((0 : Int)), .int .u8 ((0 : Int)), .int .u8 ((0 : Int)), .int .u8 ((0 : Int)), .int .u8 ((0 : Int)), .int .u8 ((0 : Int)), .int .u8 ((0 : Int)), .int .u8 ((0 : Int)), .int .u8 ((0 : Int)), .int .u8 ((0 : Int)), .int .u8 ((0 : Int)), .int .u8 ((0 : Int)), .int .u8 ((0 : Int)), .int .u8 ((0 : Int)), .int .u8 ((0 : Int)), .int .u8 ((0 : Int)), .int .u8 ((0 : Int)), .int .u8 ((0 : Int)), .int .u8 ((0 : Int)), .int .u8 ((0 : Int)), .int .u8 ((0 : Int)), .int .u8 ((0 : Int)), .int .u8 ((0 : Int)), .int .u8 ((0 : Int)), .int .u8 ((0 : Int)), .int .u8 ((0 : Int)), .int .u8 ((0 : Int)), .int .u8 ((0 : Int)), .int .u8 ((0 : Int)), .int .u8 ((0 : Int)), .int .u8 ((0 : Int)), .int .u8 ((0 : Int)), .int .u8 ((0 : Int)), .int .u8 ((0 : Int)), .int .u8 ((0 : Int)), .int .u8 ((0 : Int)), .int .u8 ((0 : Int)), .int .u8 ((0 : Int)), .int .u8 ((0 : Int)), .int .u8 ((0 : Int)), .int .u8 ((0 : Int)), .int .u8 ((0 : Int)), .int .u8 ((0 : Int)), .int .u8 ((0 : Int)), .int .u8 ((0 : Int)), .int .u8 ((0 : Int)), .int .u8 ((0 : Int)), .int .u8 ((0 : Int)), .int .u8 ((0 : Int)), .int .u8 ((0 : Int)), .int .u8 ((0 : Int)), .int .u8 ((0 : Int)), .int .u8 ((0 : Int)), .int .u8 ((0 : Int)), .int .u8 ((0 : Int)), .int .u8 ((0 : Int)), .int .u8 ((0 : Int)), .int .u8 ((0 : Int)), .int .u8 ((0 : Int)), .int .u8 ((0 : Int)), .int .u8 ((0 : Int)), .int .u8 ((0 : Int)), .int .u8 ((0 : Int)), .int .u8 ((0 : Int)), .int .u8 ((0 : Int)), .int .u8 ((0 : Int)), .int .u8 ((0 : Int)), .int .u8 ((0 : Int)), .int .u8 ((0 : Int)), .int .u8 ((0 : Int)), .int .u8 ((0 : Int)), .int .u8 ((0 : Int)), .int .u8 ((0 : Int)), .int .u8 ((0 : Int)), .int .u8 ((0 : Int)), .int .u8 ((0 : Int)), .int .u8 ((0 : Int)), .int .u8 ((0 : Int)), .int .u8 ((0 : Int)), .int .u8 ((0 : Int)), .int .u8 ((0 : Int)), .int .u8 ((0 : Int)), .int .u8 ((0 : Int)), .int .u8 ((0 : Int)), .int .u8 ((0 : Int)), .int .u8 ((0 : Int)), .int .u8 ((0 : Int)), .int .u8 ((0 : Int)), .int .u8 ((0 : Int)), .int .u8 ((0 : Int)), .int .u8 ((0 : Int)), .int .u8 ((0 : Int)), .int .u8 ((0 : Int)), .int .u8 ((0 : Int)), .int .u8 ((0 : Int)), .int .u8 ((0 : Int)), .int .u8 ((0 : Int)), .int .u8 ((0 : Int)), .int .u8 ((0 : Int)), .int .u8 ((0 : Int)), .int .u8 ((0 : Int)), .int .u8 ((0 : Int)), .int .u8 ((0 : Int)), .int .u8 ((0 : Int)), .int .u8 ((0 : Int)), .int .u8 ((0 : Int)), .int .u8 ((0 : Int)), .int .u8 ((0 : Int)), .int .u8 ((0 : Int)), .int .u8 ((0 : Int)), .int .u8 ((0 : Int)), .int .u8 ((0 : Int)), .int .u8 ((0 : Int)), .int .u8 ((0 : Int)), .int .u8 ((0 : Int)), .int .u8 ((0 : Int)), .int .u8 ((0 : Int)), .int .u8 ((0 : Int)), .int .u8 ((0 : Int)), .int .u8 ((0 : Int)), .int .u8 ((0 : Int)), .int .u8 ((0 : Int)), .int .u8 ((0 : Int)), .int .u8 ((0 : Int)), .int .u8 ((0 : Int)), .int .u8 ((0 : Int)), .int .u8 ((0 : Int)), .int .u8 ((0 : Int)), .int .u8 ((0 : Int)), .int .u8 ((0 : Int)), .int .u8 ((0 : Int)), .int .u8 ((0 : Int)), .int .u8 ((0 : Int)), .int .u8 ((0 : Int)), .int .u8 ((0 : Int)), .int .u8 ((0 : Int)), .int .u8 ((0 : Int)), .int .u8 ((0 : Int)), .int .u8 ((0 : Int)), .int .u8 ((0 : Int)), .int .u8 ((0 : Int)), .int .u8 ((0 : Int)), .int .u8 ((0 : Int)), .int .u8 ((0 : Int)), .int .u8 ((0 : Int)), .int .u8 ((0 : Int)), .int .u8 ((0 : Int)), .int .u8 ((0 : Int)), .int .u8 ((0 : Int)), .int .u8 ((0 : Int)), .int .u8 ((0 : Int)), .int .u8 ((0 : Int)), .int .u8 ((0 : Int)), .int .u8 ((0 : Int)), .int .u8 ((0 : Int)), .int .u8 ((0 : Int)), .int .u8 ((0 : Int)), .int .u8 ((0 : Int)), .int .u8 ((0 : Int)), .int .u8 ((0 : Int)), .int .u8 ((0 : Int)), .int .u8 ((0 : Int)), .int .u8 ((0 : Int)), .int .u8 ((0 : Int)), .int .u8 ((0 : Int)), .int .u8 ((0 : Int)), .int .u8 ((0 : Int)), .int .u8 ((0 : Int)), .int .u8 ((0 : Int)), .int .u8 ((0 : Int)), .int .u8 ((0 : Int)), .int .u8 ((0 : Int)), .int .u8 ((0 : Int)), .int .u8 ((0 : Int)), .int .u8 ((0 : Int)), .int .u8 ((0 : Int)), .int .u8 ((0 : Int)), .int .u8 ((0 : Int)), .int .u8 ((0 : Int)), .int .u8 ((0 : Int)), .int .u8 ((0 : Int)), .int .u8 ((0 : Int)), .int .u8 ((0 : Int)), .int .u8 ((0 : Int)), .int .u8 ((0 : Int)), .int .u8 ((0 : Int)), .int .u8 ((0 : Int)), .int .u8 ((0 : Int)), .int .u8 ((0 : Int)), .int .u8 ((0 : Int)), .int .u8 ((0 : Int)), .int .u8 ((0 : Int)), .int .u8 ((0 : Int)), .int .u8 ((0 : Int)), .int .u8 ((0 : Int)), .int .u8 ((0 : Int)), .int .u8 ((0 : Int)), .int .u8 ((0 : Int)), .int .u8 ((0 : Int)), .int .u8 ((0 : Int)), .int .u8 ((0 : Int)), .int .u8 ((0 : Int)), .int .u8 ((0 : Int)), .int .u8 ((0 : Int)), .int .u8 ((0 : Int)), .int .u8 ((0 : Int)), .int .u8 ((0 : Int)), .int .u8 ((0 : Int)), .int .u8 ((0 : Int)), .int .u8 ((0 : Int)), .int .u8 ((0 : Int)), .int .u8 ((0 : Int)), .int .u8 ((0 : Int)), .int .u8 ((0 : Int)), .int .u8 ((0 : Int)), .int .u8 ((0 : Int)), .int .u8 ((0 : Int)), .int .u8 ((0 : Int)), .int .u8 ((0 : Int)), .int .u8 ((0 : Int)), .int .u8 ((0 : Int)), .int .u8 ((0 : Int)), .int .u8 ((0 : Int)), .int .u8 ((0 : Int)), .int .u8 ((0 : Int)), .int .u8 ((0 : Int)), .int .u8 ((0 : Int)), .int .u8 ((0 : Int)), .int .u8 ((0 : Int)), .int .u8 ((0 : Int)), .int .u8 ((0 : Int)), .int .u8 ((0 : Int)), .int .u8 ((0 : Int)), .int .u8 ((0 : Int)), .int .u8 ((0 : Int)), .int .u8 ((0 : Int)), .int .u8 ((0 : Int)), .int .u8 ((0 : Int)), .int .u8 ((0 : Int)), .int .u8 ((0 : Int)), .int .u8 ((0 : Int)), .int .u8 ((0 : Int)), .int .u8 ((0 : Int)), .int .u8 ((0 : Int)), .int .u8 ((0 : Int)), .int .u8 ((0 : Int)), .int .u8 ((0 : Int)), .int .u8 ((0 : Int)), .int .u8 ((0 : Int)), .int .u8 ((0 : Int)), .int .u8 ((0 : Int)), .int .u8 ((0 : Int)), .int .u8 ((0 : Int)), .int .u8 ((0 : Int)), .int .u8 ((0 : Int)), .int .u8 ((0 : Int)), .int .u8 ((0 : Int)), .int .u8 ((0 : Int)), .int .u8 ((0 : Int)), .int .u8 ((0 : Int)), .int .u8 ((0 : Int)), .int .u8 ((0 : Int)), .int .u8 ((0 : Int)), .int .u8 ((0 : Int)), .int .u8 ((0 : Int)), .int .u8 ((0 : Int)), .int .u8 ((0 : Int)), .int .u8 ((0 : Int)), .int .u8 ((0 : Int)), .int .u8 ((0 : Int)), .int .u8 ((0 : Int)), .int .u8 ((0 : Int)), .int .u8 ((0 : Int)), .int .u8 ((0 : Int)), .int .u8 ((0 : Int)), .int .u8 ((0 : Int)), .int .u8 ((0 : Int)), .int .u8 ((0 : Int)), .int .u8 ((0 : Int)), .int .u8 ((0 : Int)), .int .u8 ((0 : Int)), .int .u8 ((0 : Int)), .int .u8 ((0 : Int)), .int .u8 ((0 : Int)), .int .u8 ((0 : Int)), .int .u8 ((0 : Int)), .int .u8 ((0 : Int)), .int .u8 ((0 : Int)), .int .u8 ((0 : Int)), .int .u8 ((0 : Int)), .int .u8 ((0 : Int)), .int .u8 ((0 : Int)), .int .u8 ((0 : Int)), .int .u8 ((0 : Int)), .int .u8 ((0 : Int)), .int .u8 ((0 : Int)), .int .u8 ((0 : Int)), .int .u8 ((0 : Int)), .int .u8 ((0 : Int)), .int .u8 ((0 : Int)), .int .u8 ((0 : Int)), .int .u8 ((0 : Int)), .int .u8 ((0 : Int)), .int .u8 ((0 : Int)), .int .u8 ((0 : Int)), .int .u8 ((0 : Int)), .int .u8 ((0 : Int)), .int .u8 ((0 : Int)), .int .u8 ((0 : Int)), .int .u8 ((0 : Int)), .int .u8 ((0 : Int)), .int .u8 ((0 : Int)), .int .u8 ((0 : Int)), .int .u8 ((0 : Int)), .int .u8 ((0 : Int)), .int .u8 ((0 : Int)), .int .u8 ((0 : Int)), .int .u8 ((0 : Int)), .int .u8 ((0 : Int)), .int .u8 ((0 : Int)), .int .u8 ((0 : Int)), .int .u8 ((0 : Int)), .int .u8 ((0 : Int)), .int .u8 ((0 : Int)), .int .u8 ((0 : Int)), .int .u8 ((0 : Int)), .int .u8 ((0 : Int)), .int .u8 ((0 : Int)), .int .u8 ((0 : Int)), .int .u8 ((0 : Int)), .int .u8 ((0 : Int)), .int .u8 ((0 : Int)), .int .u8 ((0 : Int)), .int .u8 ((0 : Int)), .int .u8 ((0 : Int)), .int .u8 ((0 : Int)), .int .u8 ((0 : Int)), .int .u8 ((0 : Int)), .int .u8 ((0 : Int)), .int .u8 ((0 : Int)), .int .u8 ((0 : Int)), .int .u8 ((0 : Int)), .int .u8 ((0 : Int)), .int .u8 ((0 : Int)), .int .u8 ((0 : Int)), .int .u8 ((0 : Int)), .int .u8 ((0 : Int)), .int .u8 ((0 : Int)), .int .u8 ((0 : Int)), .int .u8 ((0 : Int)), .int .u8 ((0 : Int)), .int .u8 ((0 : Int)), .int .u8 ((0 : Int)), .int .u8 ((0 : Int)), .int .u8 ((0 : Int)), .int .u8 ((0 : Int)), .int .u8 ((0 : Int)), .int .u8 ((0 : Int)), .int .u8 ((0 : Int)), .int .u8 ((0 : Int)), .int .u8 ((0 : Int)), .int .u8 ((0 : Int)), .int .u8 ((0 : Int)), .int .u8 ((0 : Int)), .int .u8 ((0 : Int)), .int .u8 ((0 : Int)), .int .u8 ((0 : Int)), .int .u8 ((0 : Int)), .int .u8 ((0 : Int)), .int .u8 ((0 : Int)), .int .u8 ((0 : Int)), .int .u8 ((0 : Int)), .int .u8 ((0 : Int)), .int .u8 ((0 : Int)), .int .u8 ((0 : Int)), .int .u8 ((0 : Int)), .int .u8 ((0 : Int)), .int .u8 ((0 : Int)), .int .u8 ((0 : Int)), .int .u8 ((0 : Int)), .int .u8 ((0 : Int)), .int .u8 ((0 : Int)), .int .u8 ((0 : Int)), .int .u8 ((0 : Int)), .int .u8 ((0 : Int)), .int .u8 ((0 : Int)), .int .u8 ((0 : Int)), .int .u8 ((0 : Int)), .int .u8 ((0 : Int)), .int .u8 ((0 : Int)), .int .u8 ((0 : Int)), .int .u8 ((0 : Int)), .int .u8 ((0 : Int)), .int .u8 ((0 : Int)), .int .u8 ((0 : Int)), .int .u8 ((0 : Int)), .int .u8 ((0 : Int)), .int .u8 ((0 : Int)), .int .u8 ((0 : Int)), .int .u8 ((0 : Int)), .int .u8 ((0 : Int)), .int .u8 ((0 : Int)), .int .u8 ((0 : Int)), .int .u8 ((0 : Int)), .int .u8 ((0 : Int)), .int .u8 ((0 : Int)), .int .u8 ((0 : Int)), .int .u8 ((0 : Int)), .int .u8 ((0 : Int)), .int .u8 ((0 : Int)), .int .u8 ((0 : Int)), .int .u8 ((0 : Int)), .int .u8 ((0 : Int)), .int .u8 ((0 : Int)), .int .u8 ((0 : Int)), .int .u8 ((0 : Int)), .int .u8 ((0 : Int)), .int .u8 ((0 : Int)), .int .u8 ((0 : Int)), .int .u8 ((0 : Int)), .int .u8 ((0 : Int)), .int .u8 ((0 : Int)), .int .u8 ((0 : Int)), .int .u8 ((0 : Int)), .int .u8 ((0 : Int)), .int .u8 ((0 : Int)), .int .u8 ((0 : Int)), .int .u8 ((0 : Int)), .int .u8 ((0 : Int)), .int .u8 ((0 : Int)), .int .u8 ((0 : Int)), .int .u8 ((0 : Int)), .int .u8 ((0 : Int)), .int .u8 ((0 : Int)), .int .u8 ((0 : Int)), .int .u8 ((0 : Int)), .int .u8 ((0 : Int)), .int .u8 ((0 : Int)), .int .u8 ((0 : Int)), .int .u8 ((0 : Int)), .int .u8 ((0 : Int)), .int .u8 ((0 : Int)), .int .u8 ((0 : Int)), .int .u8 ((0 : Int)), .int .u8 ((0 : Int)), .int .u8 ((0 : Int)), .int .u8 ((0 : Int)), .int .u8 ((0 : Int)), .int .u8 ((0 : Int)), .int .u8 ((0 : Int)), .int .u8 ((0 : Int)), .int .u8 ((0 : Int)), .int .u8 ((0 : Int)), .int .u8 ((0 : Int)), .int .u8 ((0 : Int)), .int .u8 ((0 : Int)), .int .u8 ((0 : Int)), .int .u8 ((0 : Int)), .int .u8 ((0 : Int)), .int .u8 ((0 : Int)), .int .u8 ((0 : Int))] 5 <| fun (n5 : Nat) =>
         .loadStr (some { block := n5, off := 0 }) (Int.toNat (512 : Int)) <| fun (s6 : ByteArray) =>
          .call 9 [.pointer r1, .string s6] (.int .i64) <| fun (r7 : Int) =>
           .loop (.pair (.int .i64) .unit) ((1 : Int), ()) <| fun (v8 : (Int × Unit)) =>
            .cond (decide (v8.1 < (32 : Int))) (
             .call 9 [.pointer r1, .string ((⟨#[(120 : UInt8)]⟩ : ByteArray))] (.int .i64) <| fun (r9 : Int) =>
              .dcall (true) 8 [.int .i64 r9] (.int .i64) <| fun (r10 : Int) =>
               .cond (r10 != (0 : Int)) (
                .pop <|
                .ret (.bool false)) (
                .again (.pair (.int .i64) .unit) (IntKind.i64.wrap (v8.1 + (1 : Int)), ()))) (
             .pop <|
             .call 9 [.pointer r1, .string ((⟨#[(121 : UInt8)]⟩ : ByteArray))] (.int .i64) <| fun (r9 : Int) =>
              .call 13 [.pointer r1, .int .i64 ((0 : Int))] (.int .i64) <| fun (r10 : Int) =>
               .call 11 [.pointer r1, .int .i64 (IntKind.i64.wrap ((0 : Int) - IntKind.i64.wrap ((1 : Int) + bitsI BinOp.and IntKind.i64 x0 (1023 : Int))))] (.tup (.pair .str (.int .i64))) <| fun (r11 : (ByteArray × Int)) =>
                .call 11 [.pointer r1, .int .i64 (IntKind.i64.wrap ((31 : Int) + IntKind.i64.wrap ((1 : Int) + bitsI BinOp.and IntKind.i64 x0 (1023 : Int))))] (.tup (.pair .str (.int .i64))) <| fun (r12 : (ByteArray × Int)) =>
                 .call 13 [.pointer r1, .int .i64 (IntKind.i64.wrap ((0 : Int) - IntKind.i64.wrap ((1 : Int) + bitsI BinOp.and IntKind.i64 x0 (1023 : Int))))] (.int .i64) <| fun (r13 : Int) =>
                  .call 11 [.pointer r1, .int .i64 ((31 : Int))] (.tup (.pair .str (.int .i64))) <| fun (r14 : (ByteArray × Int)) =>
                   .call 13 [.pointer r1, .int .i64 ((0 : Int))] (.int .i64) <| fun (r15 : Int) =>
                    .dcall (true) 8 [.int .i64 r4] (.int .i64) <| fun (r16 : Int) =>
                     .dcall (r16 == (2200 : Int)) 8 [.int .i64 r7] (.int .i64) <| fun (r17 : Int) =>
                      .dcall (bif r16 == (2200 : Int) then r17 == (0 : Int) else false) 8 [.int .i64 r9] (.int .i64) <| fun (r18 : Int) =>
                       .dcall (bif bif r16 == (2200 : Int) then r17 == (0 : Int) else false then r18 == (2201 : Int) else false) 8 [.int .i64 r10] (.int .i64) <| fun (r19 : Int) =>
                        .dcall (bif bif bif r16 == (2200 : Int) then r17 == (0 : Int) else false then r18 == (2201 : Int) else false then r19 == (2201 : Int) else false) 8 [.int .i64 r11.2] (.int .i64) <| fun (r20 : Int) =>
                         .dcall (bif bif bif bif r16 == (2200 : Int) then r17 == (0 : Int) else false then r18 == (2201 : Int) else false then r19 == (2201 : Int) else false then r20 == (2202 : Int) else false) 8 [.int .i64 r12.2] (.int .i64) <| fun (r21 : Int) =>
                          .dcall (bif bif bif bif bif r16 == (2200 : Int) then r17 == (0 : Int) else false then r18 == (2201 : Int) else false then r19 == (2201 : Int) else false then r20 == (2202 : Int) else false then r21 == (2202 : Int) else false) 8 [.int .i64 r13] (.int .i64) <| fun (r22 : Int) =>
                           .dcall (bif bif bif bif bif bif r16 == (2200 : Int) then r17 == (0 : Int) else false then r18 == (2201 : Int) else false then r19 == (2201 : Int) else false then r20 == (2202 : Int) else false then r21 == (2202 : Int) else false then r22 == (2202 : Int) else false) 8 [.int .i64 r14.2] (.int .i64) <| fun (r23 : Int) =>
                            .dcall (bif bif bif bif bif bif bif r16 == (2200 : Int) then r17 == (0 : Int) else false then r18 == (2201 : Int) else false then r19 == (2201 : Int) else false then r20 == (2202 : Int) else false then r21 == (2202 : Int) else false then r22 == (2202 : Int) else false then r23 == (0 : Int) else false) 8 [.int .i64 r15] (.int .i64) <| fun (r24 : Int) =>
                             .callG (bif bif bif bif bif bif bif bif r16 == (2200 : Int) then r17 == (0 : Int) else false then r18 == (2201 : Int) else false then r19 == (2201 : Int) else false then r20 == (2202 : Int) else false then r21 == (2202 : Int) else false then r22 == (2202 : Int) else false then r23 == (0 : Int) else false then r24 == (0 : Int) else false) 15 [.pointer r1] .slice <| fun (r25 : Sl) =>
                              .ret (.bool (bif bif bif bif bif bif bif bif bif r16 == (2200 : Int) then r17 == (0 : Int) else false then r18 == (2201 : Int) else false then r19 == (2201 : Int) else false then r20 == (2202 : Int) else false then r21 == (2202 : Int) else false then r22 == (2202 : Int) else false then r23 == (0 : Int) else false then r24 == (0 : Int) else false then (↑r25.len : Int) == (32 : Int) else false)))))
noncomputable def fx5 : Fx := { loops := fun n => match n with | 10 => ⟨[.slot 7 ((.int .i64))], [3, 4, 5, 6], []⟩ | _ => ⟨[], [], []⟩, esc := fun n => memN n [], own := fun n => memN n [] }
theorem T5_eq (x0 : Int) : evFn cx fx5 Try.f5 [.int .i64 x0] = T5 x0 := by kernel_rfl

/-- wharfage/wharfagelaw22.NetAll -/
def T6 (x0 : Sl) : T :=
 .dcall (true) 18 [] .bool <| fun (r0 : Bool) =>
  .cond (!r0) (
   .ret (.bool false)) (
   .call 7 [] .ptr <| fun (r1 : Option Addr) =>
    .call 7 [] .ptr <| fun (r2 : Option Addr) =>
     .cond (bif Option.isNone r1 then true else Option.isNone r2) (
      .ret (.bool false)) (
      .loop (.pair .slice (.pair (.int .i64) .unit)) (⟨none, 0, 0⟩, ((0 : Int), ())) <| fun (v3 : (Sl × (Int × Unit))) =>
       .cond (bif decide (v3.2.1 < (↑x0.len : Int)) then decide (v3.2.1 < (20 : Int)) else false) (
        .must (true = true → (0 : Int) ≤ v3.2.1 ∧ v3.2.1 < (↑x0.len : Int) ∧ x0.a.isSome = true) <|
        .load (true) .str ((x0.a.getD { block := 0, off := 0 }).add (v3.2.1.toNat * 1)) <| fun (m4 : ByteArray) =>
         .call 9 [.pointer r1, .string m4] (.int .i64) <| fun (r5 : Int) =>
          .dcall (true) 8 [.int .i64 r5] (.int .i64) <| fun (r6 : Int) =>
           .cond (r6 == (0 : Int)) (
            .must (true = true → (0 : Int) ≤ v3.2.1 ∧ v3.2.1 < (↑x0.len : Int) ∧ x0.a.isSome = true) <|
            .load (true) .str ((x0.a.getD { block := 0, off := 0 }).add (v3.2.1.toNat * 1)) <| fun (m7 : ByteArray) =>
             .lit (true) [.string m7] 9 <| fun (n8 : Nat) =>
              .append 9 1 16 v3.1 ⟨(some ⟨n8, 0, none⟩), 1, 1⟩ <| fun (q9 : Sl) =>
               .again (.pair .slice (.pair (.int .i64) .unit)) (q9, (IntKind.i64.wrap (v3.2.1 + (1 : Int)), ()))) (
            .again (.pair .slice (.pair (.int .i64) .unit)) (v3.1, (IntKind.i64.wrap (v3.2.1 + (1 : Int)), ())))) (
        .pop <|
        .call 15 [.pointer r1] .slice <| fun (r4 : Sl) =>
         .call 17 [.slice r4.a r4.len r4.cap] (.tup .unit) <| fun (r5 : Unit) =>
          .call 15 [.pointer r1] .slice <| fun (r6 : Sl) =>
           .dcall (true) 16 [.slice r6.a r6.len r6.cap, .slice v3.1.a v3.1.len v3.1.cap] .bool <| fun (r7 : Bool) =>
            .callG (r7) 15 [.pointer r2] .slice <| fun (r8 : Sl) =>
             .ret (.bool (bif r7 then (↑r8.len : Int) == (0 : Int) else false)))))
noncomputable def fx6 : Fx := { loops := fun n => match n with | 8 => ⟨[.slot 5 (.slice), .slot 6 ((.int .i64))], [0, 3, 4], []⟩ | _ => ⟨[], [], []⟩, esc := fun n => memN n [], own := fun n => memN n [] }
theorem T6_eq (x0 : Sl) : evFn cx fx6 Try.f6 [.slice x0.a x0.len x0.cap] = T6 x0 := by kernel_rfl

/-- wharfage/net.New -/
def T7  : T :=
 .newObj (Obj.chan (Int.toNat (32 : Int)) #[] false 0 0 false) <| fun (n0 : Nat) =>
  .new [.slice none (0) (0), .chan (some n0)] 51 <| fun (n1 : Nat) =>
   .ret (.pointer (some ⟨n1, 0, none⟩))
noncomputable def fx7 : Fx := { loops := fun _ => ⟨[], [], []⟩, esc := fun n => memN n [3], own := fun n => memN n [] }
theorem T7_eq  : evFn cx fx7 Try.f7 [] = T7  := by kernel_rfl

/-- wharfage/wharfagelaw0.Num -/
def T8 (x0 : Int) : T :=
 .ret (.int .i64 x0)
noncomputable def fx8 : Fx := { loops := fun _ => ⟨[], [], []⟩, esc := fun n => memN n [], own := fun n => memN n [] }
theorem T8_eq (x0 : Int) : evFn cx fx8 Try.f8 [.int .i64 x0] = T8 x0 := by kernel_rfl

/-- (*wharfage/net.Net).Send -/
def T9 (x0 : Option Addr) (x1 : ByteArray) : T :=
 .cond (x0.isNone) (
  .ret (.int .i64 ((1 : Int)))) (
  .cond (bif x1.toList == (⟨#[]⟩ : ByteArray).toList then true else decide ((↑x1.size : Int) > (512 : Int))) (
   .ret (.int .i64 ((2200 : Int)))) (
   .call 19 [.pointer x0, .string x1] (.int .i64) <| fun (r0 : Int) =>
    .ret (.int .i64 r0)))
noncomputable def fx9 : Fx := { loops := fun _ => ⟨[], [], []⟩, esc := fun n => memN n [], own := fun n => memN n [] }
theorem T9_eq (x0 : Option Addr) (x1 : ByteArray) : evFn cx fx9 Try.f9 [.pointer x0, .string x1] = T9 x0 x1 := by kernel_rfl

/-- (*wharfage/wharfageref19.Net).Send -/
def T10 (x0 : Option Addr) (x1 : ByteArray) : T :=
 .cond (bif x1.toList == (⟨#[]⟩ : ByteArray).toList then true else decide ((↑x1.size : Int) > (512 : Int))) (
  .ret (.int .i64 ((2200 : Int)))) (
  .must (true = true → x0.isSome = true) <|
  .load (true) .slice ((x0.getD { block := 0, off := 0 }).add (0)) <| fun (m0 : Sl) =>
   .cond (decide ((↑m0.len : Int) ≥ (32 : Int))) (
    .ret (.int .i64 ((2201 : Int)))) (
    .must (true = true → x0.isSome = true) <|
    .load (true) .slice ((x0.getD { block := 0, off := 0 }).add (0)) <| fun (m1 : Sl) =>
     .lit (true) [.string x1] 9 <| fun (n2 : Nat) =>
      .append 9 1 16 m1 ⟨(some ⟨n2, 0, none⟩), 1, 1⟩ <| fun (q3 : Sl) =>
       .must (true = true → x0.isSome = true) <|
       .store ((x0.getD { block := 0, off := 0 }).add (0)) [.slice q3.a q3.len q3.cap] <|
       .ret (.int .i64 ((0 : Int)))))
noncomputable def fx10 : Fx := { loops := fun _ => ⟨[], [], []⟩, esc := fun n => memN n [], own := fun n => memN n [] }
theorem T10_eq (x0 : Option Addr) (x1 : ByteArray) : evFn cx fx10 Try.f10 [.pointer x0, .string x1] = T10 x0 x1 := by kernel_rfl

/-- (*wharfage/net.Net).Take -/
def T11 (x0 : Option Addr) (x1 : Int) : T :=
 .cond (x0.isNone) (
  .ret (.tuple #[.string ((⟨#[]⟩ : ByteArray)), .int .i64 ((1 : Int))])) (
  .dcall (true) 20 [.pointer x0, .int .i64 x1] .bool <| fun (r0 : Bool) =>
   .cond (!r0) (
    .ret (.tuple #[.string ((⟨#[]⟩ : ByteArray)), .int .i64 ((2202 : Int))])) (
    .must (true = true → x0.isSome = true) <|
    .load (true) .slice ((x0.getD { block := 0, off := 0 }).add (0)) <| fun (m1 : Sl) =>
     .must (true = true → (0 : Int) ≤ x1 ∧ x1 < (↑m1.len : Int) ∧ m1.a.isSome = true) <|
     .load (true) .str ((m1.a.getD { block := 0, off := 0 }).add (x1.toNat * 1)) <| fun (m2 : ByteArray) =>
      .must (true = true → x0.isSome = true) <|
      .load (true) .slice ((x0.getD { block := 0, off := 0 }).add (0)) <| fun (m3 : Sl) =>
       .call 21 [.slice m3.a m3.len m3.cap, .int .i64 x1, .int .i64 (IntKind.i64.wrap (x1 + (1 : Int)))] .slice <| fun (r4 : Sl) =>
        .must (true = true → x0.isSome = true) <|
        .store ((x0.getD { block := 0, off := 0 }).add (0)) [.slice r4.a r4.len r4.cap] <|
        .must (true = true → x0.isSome = true) <|
        .load (true) .chan ((x0.getD { block := 0, off := 0 }).add (1)) <| fun (m5 : Option Nat) =>
         .recv (m5) <| fun (u6 : Value) =>
          .ret (.tuple #[.string m2, .int .i64 ((0 : Int))])))
noncomputable def fx11 : Fx := { loops := fun _ => ⟨[], [], []⟩, esc := fun n => memN n [], own := fun n => memN n [] }
theorem T11_eq (x0 : Option Addr) (x1 : Int) : evFn cx fx11 Try.f11 [.pointer x0, .int .i64 x1] = T11 x0 x1 := by kernel_rfl

/-- (*wharfage/wharfageref19.Net).Take -/
def T12 (x0 : Option Addr) (x1 : Int) : T :=
 .must ((!decide (x1 < (0 : Int))) = true → x0.isSome = true) <|
 .load (!decide (x1 < (0 : Int))) .slice ((x0.getD { block := 0, off := 0 }).add (0)) <| fun (m0 : Sl) =>
  .cond (bif decide (x1 < (0 : Int)) then true else decide (x1 ≥ (↑m0.len : Int))) (
   .ret (.tuple #[.string ((⟨#[]⟩ : ByteArray)), .int .i64 ((2202 : Int))])) (
   .must (true = true → x0.isSome = true) <|
   .load (true) .slice ((x0.getD { block := 0, off := 0 }).add (0)) <| fun (m1 : Sl) =>
    .must (true = true → (0 : Int) ≤ x1 ∧ x1 < (↑m1.len : Int) ∧ m1.a.isSome = true) <|
    .load (true) .str ((m1.a.getD { block := 0, off := 0 }).add (x1.toNat * 1)) <| fun (m2 : ByteArray) =>
     .lit (true) [] 9 <| fun (n3 : Nat) =>
      .must (true = true → x0.isSome = true) <|
      .load (true) .slice ((x0.getD { block := 0, off := 0 }).add (0)) <| fun (m4 : Sl) =>
       .must (true = true → ((0 : Int) ≤ x1 ∧ x1 ≤ (↑m4.cap : Int)) ∧ True) <|
       .append 9 1 16 ⟨(some ⟨n3, 0, none⟩), 0, 0⟩ ⟨(if m4.cap = 0 then m4.a else Option.map (fun x => x.add (0 * 1)) m4.a), x1.toNat - 0, m4.cap - 0⟩ <| fun (q5 : Sl) =>
        .must (true = true → x0.isSome = true) <|
        .load (true) .slice ((x0.getD { block := 0, off := 0 }).add (0)) <| fun (m6 : Sl) =>
         .must (true = true → True ∧ (0 : Int) ≤ IntKind.i64.wrap (x1 + (1 : Int)) ∧ IntKind.i64.wrap (x1 + (1 : Int)) ≤ (↑m6.len : Int)) <|
         .append 9 1 16 q5 ⟨(if m6.cap = (IntKind.i64.wrap (x1 + (1 : Int))).toNat then m6.a else Option.map (fun x => x.add ((IntKind.i64.wrap (x1 + (1 : Int))).toNat * 1)) m6.a), m6.len - (IntKind.i64.wrap (x1 + (1 : Int))).toNat, m6.cap - (IntKind.i64.wrap (x1 + (1 : Int))).toNat⟩ <| fun (q7 : Sl) =>
          .must (true = true → x0.isSome = true) <|
          .store ((x0.getD { block := 0, off := 0 }).add (0)) [.slice q7.a q7.len q7.cap] <|
          .ret (.tuple #[.string m2, .int .i64 ((0 : Int))]))
noncomputable def fx12 : Fx := { loops := fun _ => ⟨[], [], []⟩, esc := fun n => memN n [], own := fun n => memN n [] }
theorem T12_eq (x0 : Option Addr) (x1 : Int) : evFn cx fx12 Try.f12 [.pointer x0, .int .i64 x1] = T12 x0 x1 := by kernel_rfl

/-- (*wharfage/net.Net).Copy -/
def T13 (x0 : Option Addr) (x1 : Int) : T :=
 .cond (x0.isNone) (
  .ret (.int .i64 ((1 : Int)))) (
  .dcall (true) 20 [.pointer x0, .int .i64 x1] .bool <| fun (r0 : Bool) =>
   .cond (!r0) (
    .ret (.int .i64 ((2202 : Int)))) (
    .must (true = true → x0.isSome = true) <|
    .load (true) .slice ((x0.getD { block := 0, off := 0 }).add (0)) <| fun (m1 : Sl) =>
     .must (true = true → (0 : Int) ≤ x1 ∧ x1 < (↑m1.len : Int) ∧ m1.a.isSome = true) <|
     .load (true) .str ((m1.a.getD { block := 0, off := 0 }).add (x1.toNat * 1)) <| fun (m2 : ByteArray) =>
      .call 19 [.pointer x0, .string m2] (.int .i64) <| fun (r3 : Int) =>
       .ret (.int .i64 r3)))
noncomputable def fx13 : Fx := { loops := fun _ => ⟨[], [], []⟩, esc := fun n => memN n [], own := fun n => memN n [] }
theorem T13_eq (x0 : Option Addr) (x1 : Int) : evFn cx fx13 Try.f13 [.pointer x0, .int .i64 x1] = T13 x0 x1 := by kernel_rfl

/-- (*wharfage/wharfageref19.Net).Copy -/
def T14 (x0 : Option Addr) (x1 : Int) : T :=
 .must ((!decide (x1 < (0 : Int))) = true → x0.isSome = true) <|
 .load (!decide (x1 < (0 : Int))) .slice ((x0.getD { block := 0, off := 0 }).add (0)) <| fun (m0 : Sl) =>
  .cond (bif decide (x1 < (0 : Int)) then true else decide (x1 ≥ (↑m0.len : Int))) (
   .ret (.int .i64 ((2202 : Int)))) (
   .must (true = true → x0.isSome = true) <|
   .load (true) .slice ((x0.getD { block := 0, off := 0 }).add (0)) <| fun (m1 : Sl) =>
    .must (true = true → (0 : Int) ≤ x1 ∧ x1 < (↑m1.len : Int) ∧ m1.a.isSome = true) <|
    .load (true) .str ((m1.a.getD { block := 0, off := 0 }).add (x1.toNat * 1)) <| fun (m2 : ByteArray) =>
     .call 10 [.pointer x0, .string m2] (.int .i64) <| fun (r3 : Int) =>
      .ret (.int .i64 r3))
noncomputable def fx14 : Fx := { loops := fun _ => ⟨[], [], []⟩, esc := fun n => memN n [], own := fun n => memN n [] }
theorem T14_eq (x0 : Option Addr) (x1 : Int) : evFn cx fx14 Try.f14 [.pointer x0, .int .i64 x1] = T14 x0 x1 := by kernel_rfl

/-- (*wharfage/net.Net).All -/
def T15 (x0 : Option Addr) : T :=
 .cond (x0.isNone) (
  .ret (.slice none (0) (0))) (
  .must (true = true → x0.isSome = true) <|
  .load (true) .slice ((x0.getD { block := 0, off := 0 }).add (0)) <| fun (m0 : Sl) =>
   .call 22 [.slice m0.a m0.len m0.cap] .slice <| fun (r1 : Sl) =>
    .ret (.slice r1.a r1.len r1.cap))
noncomputable def fx15 : Fx := { loops := fun _ => ⟨[], [], []⟩, esc := fun n => memN n [], own := fun n => memN n [] }
theorem T15_eq (x0 : Option Addr) : evFn cx fx15 Try.f15 [.pointer x0] = T15 x0 := by kernel_rfl

/-- wharfage/wharfagelaw0.SameTexts -/
def T16 (x0 : Sl) (x1 : Sl) : T :=
 .cond ((↑x0.len : Int) != (↑x1.len : Int)) (
  .ret (.bool false)) (
  .loop (.pair (.int .i64) .unit) ((0 : Int), ()) <| fun (v0 : (Int × Unit)) =>
   .cond (decide (v0.1 < (↑x0.len : Int))) (
    .must (true = true → (0 : Int) ≤ v0.1 ∧ v0.1 < (↑x0.len : Int) ∧ x0.a.isSome = true) <|
    .load (true) .str ((x0.a.getD { block := 0, off := 0 }).add (v0.1.toNat * 1)) <| fun (m1 : ByteArray) =>
     .must (true = true → (0 : Int) ≤ v0.1 ∧ v0.1 < (↑x1.len : Int) ∧ x1.a.isSome = true) <|
     .load (true) .str ((x1.a.getD { block := 0, off := 0 }).add (v0.1.toNat * 1)) <| fun (m2 : ByteArray) =>
      .cond (!ByteArray.toList m1 == ByteArray.toList m2) (
       .pop <|
       .ret (.bool false)) (
       .again (.pair (.int .i64) .unit) (IntKind.i64.wrap (v0.1 + (1 : Int)), ()))) (
    .pop <|
    .ret (.bool true)))
noncomputable def fx16 : Fx := { loops := fun n => match n with | 4 => ⟨[.slot 5 ((.int .i64))], [0, 1], []⟩ | _ => ⟨[], [], []⟩, esc := fun n => memN n [], own := fun n => memN n [6] }
theorem T16_eq (x0 : Sl) (x1 : Sl) : evFn cx fx16 Try.f16 [.slice x0.a x0.len x0.cap, .slice x1.a x1.len x1.cap] = T16 x0 x1 := by kernel_rfl

/-- wharfage/wharfagelaw0.SpoilTexts -/
def T17 (x0 : Sl) : T :=
 .loop (.pair (.int .i64) .unit) ((0 : Int), ()) <| fun (v0 : (Int × Unit)) =>
  .cond (decide (v0.1 < (↑x0.len : Int))) (
   .must (true = true → (0 : Int) ≤ v0.1 ∧ v0.1 < (↑x0.len : Int) ∧ x0.a.isSome = true) <|
   .load (true) .str ((x0.a.getD { block := 0, off := 0 }).add (v0.1.toNat * 1)) <| fun (m1 : ByteArray) =>
    .must (true = true → (⟨#[(126 : UInt8)]⟩ : ByteArray).size + ByteArray.size m1 ≤ 9223372036854775807) <|
    .must (true = true → (0 : Int) ≤ v0.1 ∧ v0.1 < (↑x0.len : Int) ∧ x0.a.isSome = true) <|
    .store ((x0.a.getD { block := 0, off := 0 }).add (v0.1.toNat * 1)) [.string ((⟨#[(126 : UInt8)]⟩ : ByteArray) ++ m1)] <|
    .again (.pair (.int .i64) .unit) (IntKind.i64.wrap (v0.1 + (1 : Int)), ())) (
   .pop <|
   .ret (.tuple #[]))
noncomputable def fx17 : Fx := { loops := fun n => match n with | 1 => ⟨[.slot 2 ((.int .i64))], [0], []⟩ | _ => ⟨[], [], []⟩, esc := fun n => memN n [], own := fun n => memN n [] }
theorem T17_eq (x0 : Sl) : evFn cx fx17 Try.f17 [.slice x0.a x0.len x0.cap] = T17 x0 := by kernel_rfl

/-- wharfage/wharfagelaw22.awake -/
def T18  : T :=
 .call 7 [] .ptr <| fun (r0 : Option Addr) =>
  .cond (Option.isNone r0) (
   .ret (.bool false)) (
   .call 9 [.pointer r0, .string ((⟨#[(120 : UInt8)]⟩ : ByteArray))] (.int .i64) <| fun (r1 : Int) =>
    .call 9 [.pointer r0, .string ((⟨#[(121 : UInt8)]⟩ : ByteArray))] (.int .i64) <| fun (r2 : Int) =>
     .call 9 [.pointer r0, .string ((⟨#[]⟩ : ByteArray))] (.int .i64) <| fun (r3 : Int) =>
      .call 13 [.pointer r0, .int .i64 ((0 : Int))] (.int .i64) <| fun (r4 : Int) =>
       .call 11 [.pointer r0, .int .i64 ((1 : Int))] (.tup (.pair .str (.int .i64))) <| fun (r5 : (ByteArray × Int)) =>
        .call 11 [.pointer r0, .int .i64 ((5 : Int))] (.tup (.pair .str (.int .i64))) <| fun (r6 : (ByteArray × Int)) =>
         .dcall (true) 8 [.int .i64 r1] (.int .i64) <| fun (r7 : Int) =>
          .dcall (r7 == (0 : Int)) 8 [.int .i64 r2] (.int .i64) <| fun (r8 : Int) =>
           .dcall (bif r7 == (0 : Int) then r8 == (0 : Int) else false) 8 [.int .i64 r3] (.int .i64) <| fun (r9 : Int) =>
            .dcall (bif bif r7 == (0 : Int) then r8 == (0 : Int) else false then r9 == (2200 : Int) else false) 8 [.int .i64 r4] (.int .i64) <| fun (r10 : Int) =>
             .dcall (bif bif bif bif r7 == (0 : Int) then r8 == (0 : Int) else false then r9 == (2200 : Int) else false then r10 == (0 : Int) else false then ByteArray.toList r5.1 == (⟨#[(121 : UInt8)]⟩ : ByteArray).toList else false) 8 [.int .i64 r5.2] (.int .i64) <| fun (r11 : Int) =>
              .callG (bif bif bif bif bif r7 == (0 : Int) then r8 == (0 : Int) else false then r9 == (2200 : Int) else false then r10 == (0 : Int) else false then ByteArray.toList r5.1 == (⟨#[(121 : UInt8)]⟩ : ByteArray).toList else false then r11 == (0 : Int) else false) 15 [.pointer r0] .slice <| fun (r12 : Sl) =>
               .lit (bif bif bif bif bif r7 == (0 : Int) then r8 == (0 : Int) else false then r9 == (2200 : Int) else false then r10 == (0 : Int) else false then ByteArray.toList r5.1 == (⟨#[(121 : UInt8)]⟩ : ByteArray).toList else false then r11 == (0 : Int) else false) [.string ((⟨#[(120 : UInt8)]⟩ : ByteArray)), .string ((⟨#[(120 : UInt8)]⟩ : ByteArray))] 9 <| fun (n13 : Nat) =>
                .dcall (bif bif bif bif bif r7 == (0 : Int) then r8 == (0 : Int) else false then r9 == (2200 : Int) else false then r10 == (0 : Int) else false then ByteArray.toList r5.1 == (⟨#[(121 : UInt8)]⟩ : ByteArray).toList else false then r11 == (0 : Int) else false) 16 [.slice r12.a r12.len r12.cap, .slice (some ⟨n13, 0, none⟩) (2) (2)] .bool <| fun (r14 : Bool) =>
                 .dcall (bif bif bif bif bif bif r7 == (0 : Int) then r8 == (0 : Int) else false then r9 == (2200 : Int) else false then r10 == (0 : Int) else false then ByteArray.toList r5.1 == (⟨#[(121 : UInt8)]⟩ : ByteArray).toList else false then r11 == (0 : Int) else false then r14 else false) 8 [.int .i64 r6.2] (.int .i64) <| fun (r15 : Int) =>
                  .callG (bif bif bif bif bif bif bif r7 == (0 : Int) then r8 == (0 : Int) else false then r9 == (2200 : Int) else false then r10 == (0 : Int) else false then ByteArray.toList r5.1 == (⟨#[(121 : UInt8)]⟩ : ByteArray).toList else false then r11 == (0 : Int) else false then r14 else false then r15 == (2202 : Int) else false) 9 [.pointer none, .string ((⟨#[(120 : UInt8)]⟩ : ByteArray))] (.int .i64) <| fun (r16 : Int) =>
                   .dcall (bif bif bif bif bif bif bif r7 == (0 : Int) then r8 == (0 : Int) else false then r9 == (2200 : Int) else false then r10 == (0 : Int) else false then ByteArray.toList r5.1 == (⟨#[(121 : UInt8)]⟩ : ByteArray).toList else false then r11 == (0 : Int) else false then r14 else false then r15 == (2202 : Int) else false) 8 [.int .i64 r16] (.int .i64) <| fun (r17 : Int) =>
                    .callG (bif bif bif bif bif bif bif bif r7 == (0 : Int) then r8 == (0 : Int) else false then r9 == (2200 : Int) else false then r10 == (0 : Int) else false then ByteArray.toList r5.1 == (⟨#[(121 : UInt8)]⟩ : ByteArray).toList else false then r11 == (0 : Int) else false then r14 else false then r15 == (2202 : Int) else false then r17 == (1 : Int) else false) 15 [.pointer none] .slice <| fun (r18 : Sl) =>
                     .ret (.bool (bif bif bif bif bif bif bif bif bif r7 == (0 : Int) then r8 == (0 : Int) else false then r9 == (2200 : Int) else false then r10 == (0 : Int) else false then ByteArray.toList r5.1 == (⟨#[(121 : UInt8)]⟩ : ByteArray).toList else false then r11 == (0 : Int) else false then r14 else false then r15 == (2202 : Int) else false then r17 == (1 : Int) else false then (↑r18.len : Int) == (0 : Int) else false)))
noncomputable def fx18 : Fx := { loops := fun _ => ⟨[], [], []⟩, esc := fun n => memN n [], own := fun n => memN n [] }
theorem T18_eq  : evFn cx fx18 Try.f18 [] = T18  := by kernel_rfl

/-- (*wharfage/net.Net).add -/
def T19 (x0 : Option Addr) (x1 : ByteArray) : T :=
 .must (true = true → x0.isSome = true) <|
 .load (true) .chan ((x0.getD { block := 0, off := 0 }).add (1)) <| fun (m0 : Option Nat) =>
  .trySend (m0) (.agg #[]) <| fun (b1 : Bool) =>
   .cond ((bif b1 then (0 : Int) else (-1 : Int)) == (0 : Int)) (
    .must (true = true → x0.isSome = true) <|
    .load (true) .slice ((x0.getD { block := 0, off := 0 }).add (0)) <| fun (m2 : Sl) =>
     .lit (true) [.string x1] 9 <| fun (n3 : Nat) =>
      .append 9 1 16 m2 ⟨(some ⟨n3, 0, none⟩), 1, 1⟩ <| fun (q4 : Sl) =>
       .must (true = true → x0.isSome = true) <|
       .store ((x0.getD { block := 0, off := 0 }).add (0)) [.slice q4.a q4.len q4.cap] <|
       .ret (.int .i64 ((0 : Int)))) (
    .ret (.int .i64 ((2201 : Int))))
noncomputable def fx19 : Fx := { loops := fun _ => ⟨[], [], []⟩, esc := fun n => memN n [], own := fun n => memN n [] }
theorem T19_eq (x0 : Option Addr) (x1 : ByteArray) : evFn cx fx19 Try.f19 [.pointer x0, .string x1] = T19 x0 x1 := by kernel_rfl

/-- (*wharfage/net.Net).has -/
def T20 (x0 : Option Addr) (x1 : Int) : T :=
 .must (decide (x1 ≥ (0 : Int)) = true → x0.isSome = true) <|
 .load (decide (x1 ≥ (0 : Int))) .slice ((x0.getD { block := 0, off := 0 }).add (0)) <| fun (m0 : Sl) =>
  .ret (.bool (bif decide (x1 ≥ (0 : Int)) then decide (x1 < (↑m0.len : Int)) else false))
noncomputable def fx20 : Fx := { loops := fun _ => ⟨[], [], []⟩, esc := fun n => memN n [], own := fun n => memN n [] }
theorem T20_eq (x0 : Option Addr) (x1 : Int) : evFn cx fx20 Try.f20 [.pointer x0, .int .i64 x1] = T20 x0 x1 := by kernel_rfl

/-- slices.Delete[[]string,string] -/
def T21 (x0 : Sl) (x1 : Int) (x2 : Int) : T :=
 .must (true = true → ((0 : Int) ≤ (↑x0.len : Int) ∧ (↑x0.len : Int) ≤ (↑x0.cap : Int)) ∧ ((0 : Int) ≤ x2 ∧ x2 ≤ (↑(↑x0.len : Int).toNat : Int)) ∧ (0 : Int) ≤ x1 ∧ x1 ≤ (↑x2.toNat : Int)) <|
 .cond (x1 == x2) (
  .ret (.slice x0.a x0.len x0.cap)) (
  .must (true = true → ((0 : Int) ≤ x1 ∧ x1 ≤ (↑x0.cap : Int)) ∧ True) <|
  .must (true = true → True ∧ (0 : Int) ≤ x2 ∧ x2 ≤ (↑x0.len : Int)) <|
  .append 9 1 16 ⟨(if x0.cap = 0 then x0.a else Option.map (fun x => x.add (0 * 1)) x0.a), x1.toNat - 0, x0.cap - 0⟩ ⟨(if x0.cap = x2.toNat then x0.a else Option.map (fun x => x.add (x2.toNat * 1)) x0.a), x0.len - x2.toNat, x0.cap - x2.toNat⟩ <| fun (q0 : Sl) =>
   .must (true = true → ((0 : Int) ≤ (↑x0.len : Int) ∧ (↑x0.len : Int) ≤ (↑q0.cap : Int)) ∧ (0 : Int) ≤ (↑q0.len : Int) ∧ (↑q0.len : Int) ≤ (↑(↑x0.len : Int).toNat : Int)) <|
   .cond (((↑x0.len : Int).toNat - (↑q0.len : Int).toNat).beq 0) (
    .ret (.slice q0.a q0.len q0.cap)) (
    .must ((if q0.cap = (↑q0.len : Int).toNat then q0.a else Option.map (fun x => x.add ((↑q0.len : Int).toNat * 1)) q0.a).isSome = true) <|
    .store ((if q0.cap = (↑q0.len : Int).toNat then q0.a else Option.map (fun x => x.add ((↑q0.len : Int).toNat * 1)) q0.a).getD { block := 0, off := 0 }) (repeatL (Value.string (⟨#[]⟩ : ByteArray)).cells.toList ((↑x0.len : Int).toNat - (↑q0.len : Int).toNat)) <|
    .ret (.slice q0.a q0.len q0.cap)))
noncomputable def fx21 : Fx := { loops := fun _ => ⟨[], [], []⟩, esc := fun n => memN n [], own := fun n => memN n [] }
theorem T21_eq (x0 : Sl) (x1 : Int) (x2 : Int) : evFn cx fx21 Try.f21 [.slice x0.a x0.len x0.cap, .int .i64 x1, .int .i64 x2] = T21 x0 x1 x2 := by kernel_rfl

/-- slices.Clone[[]string,string] -/
def T22 (x0 : Sl) : T :=
 .cond (x0.a.isNone) (
  .ret (.slice none (0) (0))) (
  .lit (true) [] 9 <| fun (n0 : Nat) =>
   .append 9 1 16 ⟨(some ⟨n0, 0, none⟩), 0, 0⟩ x0 <| fun (q1 : Sl) =>
    .ret (.slice q1.a q1.len q1.cap))
noncomputable def fx22 : Fx := { loops := fun _ => ⟨[], [], []⟩, esc := fun n => memN n [], own := fun n => memN n [] }
theorem T22_eq (x0 : Sl) : evFn cx fx22 Try.f22 [.slice x0.a x0.len x0.cap] = T22 x0 := by kernel_rfl


end Go.Ev.Nets
