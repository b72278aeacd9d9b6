/- The trees of this seat's functions: printed by this work's own program (wip/tools), each held against the evaluator by 'kernel_rfl'. -/
import Derived.Test.YtaeaipkjlhigmaasTrees
set_option maxRecDepth 100000
set_option maxHeartbeats 0
set_option linter.unusedVariables false
namespace Go.Ev.Spare
open Go Go.Ev Go.Proofs


/-- wharfage/wharfagelaw0.CopyNode -/
def T5 (x0 : D28) : T :=
 .both (
  .call 15 [S23.enc x0.2.1] S23 <| fun (r0 : D23) =>
   .both (
    .lit (true) [] 86 <| fun (n1 : Nat) =>
     .both (
      .append 86 2 16 ⟨(some ⟨n1, 0, none⟩), 0, 0⟩ x0.2.2.1 <| fun (q2 : Sl) =>
       .both (
        .lit (true) [] 91 <| fun (n3 : Nat) =>
         .both (
          .append 91 5 40 ⟨(some ⟨n3, 0, none⟩), 0, 0⟩ x0.2.2.2.1 <| fun (q4 : Sl) =>
           .lit (true) [] 50 <| fun (n5 : Nat) =>
            .append 50 9 72 ⟨(some ⟨n5, 0, none⟩), 0, 0⟩ x0.2.2.2.2.1 <| fun (q6 : Sl) =>
             .ret (.agg #[.int .i64 x0.1, .int .i64 r0.1, .slice r0.2.a r0.2.len r0.2.cap, .slice q2.a q2.len q2.cap, .slice q4.a q4.len q4.cap, .slice q6.a q6.len q6.cap, .int .i64 x0.2.2.2.2.2])) (
          .lit (true) [] 50 <| fun (n4 : Nat) =>
           .append 91 5 40 ⟨(some ⟨n3, 0, none⟩), 0, 0⟩ x0.2.2.2.1 <| fun (q5 : Sl) =>
            .append 50 9 72 ⟨(some ⟨n4, 0, none⟩), 0, 0⟩ x0.2.2.2.2.1 <| fun (q6 : Sl) =>
             .ret (.agg #[.int .i64 x0.1, .int .i64 r0.1, .slice r0.2.a r0.2.len r0.2.cap, .slice q2.a q2.len q2.cap, .slice q5.a q5.len q5.cap, .slice q6.a q6.len q6.cap, .int .i64 x0.2.2.2.2.2]))) (
        .lit (true) [] 50 <| fun (n3 : Nat) =>
         .lit (true) [] 91 <| fun (n4 : Nat) =>
          .append 91 5 40 ⟨(some ⟨n4, 0, none⟩), 0, 0⟩ x0.2.2.2.1 <| fun (q5 : Sl) =>
           .append 50 9 72 ⟨(some ⟨n3, 0, none⟩), 0, 0⟩ x0.2.2.2.2.1 <| fun (q6 : Sl) =>
            .ret (.agg #[.int .i64 x0.1, .int .i64 r0.1, .slice r0.2.a r0.2.len r0.2.cap, .slice q2.a q2.len q2.cap, .slice q5.a q5.len q5.cap, .slice q6.a q6.len q6.cap, .int .i64 x0.2.2.2.2.2]))) (
      .both (
       .lit (true) [] 91 <| fun (n2 : Nat) =>
        .both (
         .append 86 2 16 ⟨(some ⟨n1, 0, none⟩), 0, 0⟩ x0.2.2.1 <| fun (q3 : Sl) =>
          .both (
           .append 91 5 40 ⟨(some ⟨n2, 0, none⟩), 0, 0⟩ x0.2.2.2.1 <| fun (q4 : Sl) =>
            .lit (true) [] 50 <| fun (n5 : Nat) =>
             .append 50 9 72 ⟨(some ⟨n5, 0, none⟩), 0, 0⟩ x0.2.2.2.2.1 <| fun (q6 : Sl) =>
              .ret (.agg #[.int .i64 x0.1, .int .i64 r0.1, .slice r0.2.a r0.2.len r0.2.cap, .slice q3.a q3.len q3.cap, .slice q4.a q4.len q4.cap, .slice q6.a q6.len q6.cap, .int .i64 x0.2.2.2.2.2])) (
           .lit (true) [] 50 <| fun (n4 : Nat) =>
            .append 91 5 40 ⟨(some ⟨n2, 0, none⟩), 0, 0⟩ x0.2.2.2.1 <| fun (q5 : Sl) =>
             .append 50 9 72 ⟨(some ⟨n4, 0, none⟩), 0, 0⟩ x0.2.2.2.2.1 <| fun (q6 : Sl) =>
              .ret (.agg #[.int .i64 x0.1, .int .i64 r0.1, .slice r0.2.a r0.2.len r0.2.cap, .slice q3.a q3.len q3.cap, .slice q5.a q5.len q5.cap, .slice q6.a q6.len q6.cap, .int .i64 x0.2.2.2.2.2]))) (
         .lit (true) [] 50 <| fun (n3 : Nat) =>
          .append 86 2 16 ⟨(some ⟨n1, 0, none⟩), 0, 0⟩ x0.2.2.1 <| fun (q4 : Sl) =>
           .append 91 5 40 ⟨(some ⟨n2, 0, none⟩), 0, 0⟩ x0.2.2.2.1 <| fun (q5 : Sl) =>
            .append 50 9 72 ⟨(some ⟨n3, 0, none⟩), 0, 0⟩ x0.2.2.2.2.1 <| fun (q6 : Sl) =>
             .ret (.agg #[.int .i64 x0.1, .int .i64 r0.1, .slice r0.2.a r0.2.len r0.2.cap, .slice q4.a q4.len q4.cap, .slice q5.a q5.len q5.cap, .slice q6.a q6.len q6.cap, .int .i64 x0.2.2.2.2.2]))) (
       .lit (true) [] 50 <| fun (n2 : Nat) =>
        .both (
         .append 86 2 16 ⟨(some ⟨n1, 0, none⟩), 0, 0⟩ x0.2.2.1 <| fun (q3 : Sl) =>
          .lit (true) [] 91 <| fun (n4 : Nat) =>
           .append 91 5 40 ⟨(some ⟨n4, 0, none⟩), 0, 0⟩ x0.2.2.2.1 <| fun (q5 : Sl) =>
            .append 50 9 72 ⟨(some ⟨n2, 0, none⟩), 0, 0⟩ x0.2.2.2.2.1 <| fun (q6 : Sl) =>
             .ret (.agg #[.int .i64 x0.1, .int .i64 r0.1, .slice r0.2.a r0.2.len r0.2.cap, .slice q3.a q3.len q3.cap, .slice q5.a q5.len q5.cap, .slice q6.a q6.len q6.cap, .int .i64 x0.2.2.2.2.2])) (
         .lit (true) [] 91 <| fun (n3 : Nat) =>
          .append 86 2 16 ⟨(some ⟨n1, 0, none⟩), 0, 0⟩ x0.2.2.1 <| fun (q4 : Sl) =>
           .append 91 5 40 ⟨(some ⟨n3, 0, none⟩), 0, 0⟩ x0.2.2.2.1 <| fun (q5 : Sl) =>
            .append 50 9 72 ⟨(some ⟨n2, 0, none⟩), 0, 0⟩ x0.2.2.2.2.1 <| fun (q6 : Sl) =>
             .ret (.agg #[.int .i64 x0.1, .int .i64 r0.1, .slice r0.2.a r0.2.len r0.2.cap, .slice q4.a q4.len q4.cap, .slice q5.a q5.len q5.cap, .slice q6.a q6.len q6.cap, .int .i64 x0.2.2.2.2.2]))))) (
    .both (
     .lit (true) [] 91 <| fun (n1 : Nat) =>
      .both (
       .lit (true) [] 86 <| fun (n2 : Nat) =>
        .both (
         .append 86 2 16 ⟨(some ⟨n2, 0, none⟩), 0, 0⟩ x0.2.2.1 <| fun (q3 : Sl) =>
          .both (
           .append 91 5 40 ⟨(some ⟨n1, 0, none⟩), 0, 0⟩ x0.2.2.2.1 <| fun (q4 : Sl) =>
            .lit (true) [] 50 <| fun (n5 : Nat) =>
             .append 50 9 72 ⟨(some ⟨n5, 0, none⟩), 0, 0⟩ x0.2.2.2.2.1 <| fun (q6 : Sl) =>
              .ret (.agg #[.int .i64 x0.1, .int .i64 r0.1, .slice r0.2.a r0.2.len r0.2.cap, .slice q3.a q3.len q3.cap, .slice q4.a q4.len q4.cap, .slice q6.a q6.len q6.cap, .int .i64 x0.2.2.2.2.2])) (
           .lit (true) [] 50 <| fun (n4 : Nat) =>
            .append 91 5 40 ⟨(some ⟨n1, 0, none⟩), 0, 0⟩ x0.2.2.2.1 <| fun (q5 : Sl) =>
             .append 50 9 72 ⟨(some ⟨n4, 0, none⟩), 0, 0⟩ x0.2.2.2.2.1 <| fun (q6 : Sl) =>
              .ret (.agg #[.int .i64 x0.1, .int .i64 r0.1, .slice r0.2.a r0.2.len r0.2.cap, .slice q3.a q3.len q3.cap, .slice q5.a q5.len q5.cap, .slice q6.a q6.len q6.cap, .int .i64 x0.2.2.2.2.2]))) (
         .lit (true) [] 50 <| fun (n3 : Nat) =>
          .append 86 2 16 ⟨(some ⟨n2, 0, none⟩), 0, 0⟩ x0.2.2.1 <| fun (q4 : Sl) =>
           .append 91 5 40 ⟨(some ⟨n1, 0, none⟩), 0, 0⟩ x0.2.2.2.1 <| fun (q5 : Sl) =>
            .append 50 9 72 ⟨(some ⟨n3, 0, none⟩), 0, 0⟩ x0.2.2.2.2.1 <| fun (q6 : Sl) =>
             .ret (.agg #[.int .i64 x0.1, .int .i64 r0.1, .slice r0.2.a r0.2.len r0.2.cap, .slice q4.a q4.len q4.cap, .slice q5.a q5.len q5.cap, .slice q6.a q6.len q6.cap, .int .i64 x0.2.2.2.2.2]))) (
       .lit (true) [] 50 <| fun (n2 : Nat) =>
        .lit (true) [] 86 <| fun (n3 : Nat) =>
         .append 86 2 16 ⟨(some ⟨n3, 0, none⟩), 0, 0⟩ x0.2.2.1 <| fun (q4 : Sl) =>
          .append 91 5 40 ⟨(some ⟨n1, 0, none⟩), 0, 0⟩ x0.2.2.2.1 <| fun (q5 : Sl) =>
           .append 50 9 72 ⟨(some ⟨n2, 0, none⟩), 0, 0⟩ x0.2.2.2.2.1 <| fun (q6 : Sl) =>
            .ret (.agg #[.int .i64 x0.1, .int .i64 r0.1, .slice r0.2.a r0.2.len r0.2.cap, .slice q4.a q4.len q4.cap, .slice q5.a q5.len q5.cap, .slice q6.a q6.len q6.cap, .int .i64 x0.2.2.2.2.2]))) (
     .lit (true) [] 50 <| fun (n1 : Nat) =>
      .both (
       .lit (true) [] 86 <| fun (n2 : Nat) =>
        .both (
         .append 86 2 16 ⟨(some ⟨n2, 0, none⟩), 0, 0⟩ x0.2.2.1 <| fun (q3 : Sl) =>
          .lit (true) [] 91 <| fun (n4 : Nat) =>
           .append 91 5 40 ⟨(some ⟨n4, 0, none⟩), 0, 0⟩ x0.2.2.2.1 <| fun (q5 : Sl) =>
            .append 50 9 72 ⟨(some ⟨n1, 0, none⟩), 0, 0⟩ x0.2.2.2.2.1 <| fun (q6 : Sl) =>
             .ret (.agg #[.int .i64 x0.1, .int .i64 r0.1, .slice r0.2.a r0.2.len r0.2.cap, .slice q3.a q3.len q3.cap, .slice q5.a q5.len q5.cap, .slice q6.a q6.len q6.cap, .int .i64 x0.2.2.2.2.2])) (
         .lit (true) [] 91 <| fun (n3 : Nat) =>
          .append 86 2 16 ⟨(some ⟨n2, 0, none⟩), 0, 0⟩ x0.2.2.1 <| fun (q4 : Sl) =>
           .append 91 5 40 ⟨(some ⟨n3, 0, none⟩), 0, 0⟩ x0.2.2.2.1 <| fun (q5 : Sl) =>
            .append 50 9 72 ⟨(some ⟨n1, 0, none⟩), 0, 0⟩ x0.2.2.2.2.1 <| fun (q6 : Sl) =>
             .ret (.agg #[.int .i64 x0.1, .int .i64 r0.1, .slice r0.2.a r0.2.len r0.2.cap, .slice q4.a q4.len q4.cap, .slice q5.a q5.len q5.cap, .slice q6.a q6.len q6.cap, .int .i64 x0.2.2.2.2.2]))) (
       .lit (true) [] 91 <| fun (n2 : Nat) =>
        .lit (true) [] 86 <| fun (n3 : Nat) =>
         .append 86 2 16 ⟨(some ⟨n3, 0, none⟩), 0, 0⟩ x0.2.2.1 <| fun (q4 : Sl) =>
          .append 91 5 40 ⟨(some ⟨n2, 0, none⟩), 0, 0⟩ x0.2.2.2.1 <| fun (q5 : Sl) =>
           .append 50 9 72 ⟨(some ⟨n1, 0, none⟩), 0, 0⟩ x0.2.2.2.2.1 <| fun (q6 : Sl) =>
            .ret (.agg #[.int .i64 x0.1, .int .i64 r0.1, .slice r0.2.a r0.2.len r0.2.cap, .slice q4.a q4.len q4.cap, .slice q5.a q5.len q5.cap, .slice q6.a q6.len q6.cap, .int .i64 x0.2.2.2.2.2]))))) (
  .both (
   .lit (true) [] 86 <| fun (n0 : Nat) =>
    .both (
     .call 15 [S23.enc x0.2.1] S23 <| fun (r1 : D23) =>
      .both (
       .append 86 2 16 ⟨(some ⟨n0, 0, none⟩), 0, 0⟩ x0.2.2.1 <| fun (q2 : Sl) =>
        .both (
         .lit (true) [] 91 <| fun (n3 : Nat) =>
          .both (
           .append 91 5 40 ⟨(some ⟨n3, 0, none⟩), 0, 0⟩ x0.2.2.2.1 <| fun (q4 : Sl) =>
            .lit (true) [] 50 <| fun (n5 : Nat) =>
             .append 50 9 72 ⟨(some ⟨n5, 0, none⟩), 0, 0⟩ x0.2.2.2.2.1 <| fun (q6 : Sl) =>
              .ret (.agg #[.int .i64 x0.1, .int .i64 r1.1, .slice r1.2.a r1.2.len r1.2.cap, .slice q2.a q2.len q2.cap, .slice q4.a q4.len q4.cap, .slice q6.a q6.len q6.cap, .int .i64 x0.2.2.2.2.2])) (
           .lit (true) [] 50 <| fun (n4 : Nat) =>
            .append 91 5 40 ⟨(some ⟨n3, 0, none⟩), 0, 0⟩ x0.2.2.2.1 <| fun (q5 : Sl) =>
             .append 50 9 72 ⟨(some ⟨n4, 0, none⟩), 0, 0⟩ x0.2.2.2.2.1 <| fun (q6 : Sl) =>
              .ret (.agg #[.int .i64 x0.1, .int .i64 r1.1, .slice r1.2.a r1.2.len r1.2.cap, .slice q2.a q2.len q2.cap, .slice q5.a q5.len q5.cap, .slice q6.a q6.len q6.cap, .int .i64 x0.2.2.2.2.2]))) (
         .lit (true) [] 50 <| fun (n3 : Nat) =>
          .lit (true) [] 91 <| fun (n4 : Nat) =>
           .append 91 5 40 ⟨(some ⟨n4, 0, none⟩), 0, 0⟩ x0.2.2.2.1 <| fun (q5 : Sl) =>
            .append 50 9 72 ⟨(some ⟨n3, 0, none⟩), 0, 0⟩ x0.2.2.2.2.1 <| fun (q6 : Sl) =>
             .ret (.agg #[.int .i64 x0.1, .int .i64 r1.1, .slice r1.2.a r1.2.len r1.2.cap, .slice q2.a q2.len q2.cap, .slice q5.a q5.len q5.cap, .slice q6.a q6.len q6.cap, .int .i64 x0.2.2.2.2.2]))) (
       .both (
        .lit (true) [] 91 <| fun (n2 : Nat) =>
         .both (
          .append 86 2 16 ⟨(some ⟨n0, 0, none⟩), 0, 0⟩ x0.2.2.1 <| fun (q3 : Sl) =>
           .both (
            .append 91 5 40 ⟨(some ⟨n2, 0, none⟩), 0, 0⟩ x0.2.2.2.1 <| fun (q4 : Sl) =>
             .lit (true) [] 50 <| fun (n5 : Nat) =>
              .append 50 9 72 ⟨(some ⟨n5, 0, none⟩), 0, 0⟩ x0.2.2.2.2.1 <| fun (q6 : Sl) =>
               .ret (.agg #[.int .i64 x0.1, .int .i64 r1.1, .slice r1.2.a r1.2.len r1.2.cap, .slice q3.a q3.len q3.cap, .slice q4.a q4.len q4.cap, .slice q6.a q6.len q6.cap, .int .i64 x0.2.2.2.2.2])) (
            .lit (true) [] 50 <| fun (n4 : Nat) =>
             .append 91 5 40 ⟨(some ⟨n2, 0, none⟩), 0, 0⟩ x0.2.2.2.1 <| fun (q5 : Sl) =>
              .append 50 9 72 ⟨(some ⟨n4, 0, none⟩), 0, 0⟩ x0.2.2.2.2.1 <| fun (q6 : Sl) =>
               .ret (.agg #[.int .i64 x0.1, .int .i64 r1.1, .slice r1.2.a r1.2.len r1.2.cap, .slice q3.a q3.len q3.cap, .slice q5.a q5.len q5.cap, .slice q6.a q6.len q6.cap, .int .i64 x0.2.2.2.2.2]))) (
          .lit (true) [] 50 <| fun (n3 : Nat) =>
           .append 86 2 16 ⟨(some ⟨n0, 0, none⟩), 0, 0⟩ x0.2.2.1 <| fun (q4 : Sl) =>
            .append 91 5 40 ⟨(some ⟨n2, 0, none⟩), 0, 0⟩ x0.2.2.2.1 <| fun (q5 : Sl) =>
             .append 50 9 72 ⟨(some ⟨n3, 0, none⟩), 0, 0⟩ x0.2.2.2.2.1 <| fun (q6 : Sl) =>
              .ret (.agg #[.int .i64 x0.1, .int .i64 r1.1, .slice r1.2.a r1.2.len r1.2.cap, .slice q4.a q4.len q4.cap, .slice q5.a q5.len q5.cap, .slice q6.a q6.len q6.cap, .int .i64 x0.2.2.2.2.2]))) (
        .lit (true) [] 50 <| fun (n2 : Nat) =>
         .both (
          .append 86 2 16 ⟨(some ⟨n0, 0, none⟩), 0, 0⟩ x0.2.2.1 <| fun (q3 : Sl) =>
           .lit (true) [] 91 <| fun (n4 : Nat) =>
            .append 91 5 40 ⟨(some ⟨n4, 0, none⟩), 0, 0⟩ x0.2.2.2.1 <| fun (q5 : Sl) =>
             .append 50 9 72 ⟨(some ⟨n2, 0, none⟩), 0, 0⟩ x0.2.2.2.2.1 <| fun (q6 : Sl) =>
              .ret (.agg #[.int .i64 x0.1, .int .i64 r1.1, .slice r1.2.a r1.2.len r1.2.cap, .slice q3.a q3.len q3.cap, .slice q5.a q5.len q5.cap, .slice q6.a q6.len q6.cap, .int .i64 x0.2.2.2.2.2])) (
          .lit (true) [] 91 <| fun (n3 : Nat) =>
           .append 86 2 16 ⟨(some ⟨n0, 0, none⟩), 0, 0⟩ x0.2.2.1 <| fun (q4 : Sl) =>
            .append 91 5 40 ⟨(some ⟨n3, 0, none⟩), 0, 0⟩ x0.2.2.2.1 <| fun (q5 : Sl) =>
             .append 50 9 72 ⟨(some ⟨n2, 0, none⟩), 0, 0⟩ x0.2.2.2.2.1 <| fun (q6 : Sl) =>
              .ret (.agg #[.int .i64 x0.1, .int .i64 r1.1, .slice r1.2.a r1.2.len r1.2.cap, .slice q4.a q4.len q4.cap, .slice q5.a q5.len q5.cap, .slice q6.a q6.len q6.cap, .int .i64 x0.2.2.2.2.2]))))) (
     .both (
      .lit (true) [] 91 <| fun (n1 : Nat) =>
       .both (
        .call 15 [S23.enc x0.2.1] S23 <| fun (r2 : D23) =>
         .both (
          .append 86 2 16 ⟨(some ⟨n0, 0, none⟩), 0, 0⟩ x0.2.2.1 <| fun (q3 : Sl) =>
           .both (
            .append 91 5 40 ⟨(some ⟨n1, 0, none⟩), 0, 0⟩ x0.2.2.2.1 <| fun (q4 : Sl) =>
             .lit (true) [] 50 <| fun (n5 : Nat) =>
              .append 50 9 72 ⟨(some ⟨n5, 0, none⟩), 0, 0⟩ x0.2.2.2.2.1 <| fun (q6 : Sl) =>
               .ret (.agg #[.int .i64 x0.1, .int .i64 r2.1, .slice r2.2.a r2.2.len r2.2.cap, .slice q3.a q3.len q3.cap, .slice q4.a q4.len q4.cap, .slice q6.a q6.len q6.cap, .int .i64 x0.2.2.2.2.2])) (
            .lit (true) [] 50 <| fun (n4 : Nat) =>
             .append 91 5 40 ⟨(some ⟨n1, 0, none⟩), 0, 0⟩ x0.2.2.2.1 <| fun (q5 : Sl) =>
              .append 50 9 72 ⟨(some ⟨n4, 0, none⟩), 0, 0⟩ x0.2.2.2.2.1 <| fun (q6 : Sl) =>
               .ret (.agg #[.int .i64 x0.1, .int .i64 r2.1, .slice r2.2.a r2.2.len r2.2.cap, .slice q3.a q3.len q3.cap, .slice q5.a q5.len q5.cap, .slice q6.a q6.len q6.cap, .int .i64 x0.2.2.2.2.2]))) (
          .lit (true) [] 50 <| fun (n3 : Nat) =>
           .append 86 2 16 ⟨(some ⟨n0, 0, none⟩), 0, 0⟩ x0.2.2.1 <| fun (q4 : Sl) =>
            .append 91 5 40 ⟨(some ⟨n1, 0, none⟩), 0, 0⟩ x0.2.2.2.1 <| fun (q5 : Sl) =>
             .append 50 9 72 ⟨(some ⟨n3, 0, none⟩), 0, 0⟩ x0.2.2.2.2.1 <| fun (q6 : Sl) =>
              .ret (.agg #[.int .i64 x0.1, .int .i64 r2.1, .slice r2.2.a r2.2.len r2.2.cap, .slice q4.a q4.len q4.cap, .slice q5.a q5.len q5.cap, .slice q6.a q6.len q6.cap, .int .i64 x0.2.2.2.2.2]))) (
        .lit (true) [] 50 <| fun (n2 : Nat) =>
         .call 15 [S23.enc x0.2.1] S23 <| fun (r3 : D23) =>
          .append 86 2 16 ⟨(some ⟨n0, 0, none⟩), 0, 0⟩ x0.2.2.1 <| fun (q4 : Sl) =>
           .append 91 5 40 ⟨(some ⟨n1, 0, none⟩), 0, 0⟩ x0.2.2.2.1 <| fun (q5 : Sl) =>
            .append 50 9 72 ⟨(some ⟨n2, 0, none⟩), 0, 0⟩ x0.2.2.2.2.1 <| fun (q6 : Sl) =>
             .ret (.agg #[.int .i64 x0.1, .int .i64 r3.1, .slice r3.2.a r3.2.len r3.2.cap, .slice q4.a q4.len q4.cap, .slice q5.a q5.len q5.cap, .slice q6.a q6.len q6.cap, .int .i64 x0.2.2.2.2.2]))) (
      .lit (true) [] 50 <| fun (n1 : Nat) =>
       .both (
        .call 15 [S23.enc x0.2.1] S23 <| fun (r2 : D23) =>
         .both (
          .append 86 2 16 ⟨(some ⟨n0, 0, none⟩), 0, 0⟩ x0.2.2.1 <| fun (q3 : Sl) =>
           .lit (true) [] 91 <| fun (n4 : Nat) =>
            .append 91 5 40 ⟨(some ⟨n4, 0, none⟩), 0, 0⟩ x0.2.2.2.1 <| fun (q5 : Sl) =>
             .append 50 9 72 ⟨(some ⟨n1, 0, none⟩), 0, 0⟩ x0.2.2.2.2.1 <| fun (q6 : Sl) =>
              .ret (.agg #[.int .i64 x0.1, .int .i64 r2.1, .slice r2.2.a r2.2.len r2.2.cap, .slice q3.a q3.len q3.cap, .slice q5.a q5.len q5.cap, .slice q6.a q6.len q6.cap, .int .i64 x0.2.2.2.2.2])) (
          .lit (true) [] 91 <| fun (n3 : Nat) =>
           .append 86 2 16 ⟨(some ⟨n0, 0, none⟩), 0, 0⟩ x0.2.2.1 <| fun (q4 : Sl) =>
            .append 91 5 40 ⟨(some ⟨n3, 0, none⟩), 0, 0⟩ x0.2.2.2.1 <| fun (q5 : Sl) =>
             .append 50 9 72 ⟨(some ⟨n1, 0, none⟩), 0, 0⟩ x0.2.2.2.2.1 <| fun (q6 : Sl) =>
              .ret (.agg #[.int .i64 x0.1, .int .i64 r2.1, .slice r2.2.a r2.2.len r2.2.cap, .slice q4.a q4.len q4.cap, .slice q5.a q5.len q5.cap, .slice q6.a q6.len q6.cap, .int .i64 x0.2.2.2.2.2]))) (
        .lit (true) [] 91 <| fun (n2 : Nat) =>
         .call 15 [S23.enc x0.2.1] S23 <| fun (r3 : D23) =>
          .append 86 2 16 ⟨(some ⟨n0, 0, none⟩), 0, 0⟩ x0.2.2.1 <| fun (q4 : Sl) =>
           .append 91 5 40 ⟨(some ⟨n2, 0, none⟩), 0, 0⟩ x0.2.2.2.1 <| fun (q5 : Sl) =>
            .append 50 9 72 ⟨(some ⟨n1, 0, none⟩), 0, 0⟩ x0.2.2.2.2.1 <| fun (q6 : Sl) =>
             .ret (.agg #[.int .i64 x0.1, .int .i64 r3.1, .slice r3.2.a r3.2.len r3.2.cap, .slice q4.a q4.len q4.cap, .slice q5.a q5.len q5.cap, .slice q6.a q6.len q6.cap, .int .i64 x0.2.2.2.2.2]))))) (
   .both (
    .lit (true) [] 91 <| fun (n0 : Nat) =>
     .both (
      .call 15 [S23.enc x0.2.1] S23 <| fun (r1 : D23) =>
       .both (
        .lit (true) [] 86 <| fun (n2 : Nat) =>
         .both (
          .append 86 2 16 ⟨(some ⟨n2, 0, none⟩), 0, 0⟩ x0.2.2.1 <| fun (q3 : Sl) =>
           .both (
            .append 91 5 40 ⟨(some ⟨n0, 0, none⟩), 0, 0⟩ x0.2.2.2.1 <| fun (q4 : Sl) =>
             .lit (true) [] 50 <| fun (n5 : Nat) =>
              .append 50 9 72 ⟨(some ⟨n5, 0, none⟩), 0, 0⟩ x0.2.2.2.2.1 <| fun (q6 : Sl) =>
               .ret (.agg #[.int .i64 x0.1, .int .i64 r1.1, .slice r1.2.a r1.2.len r1.2.cap, .slice q3.a q3.len q3.cap, .slice q4.a q4.len q4.cap, .slice q6.a q6.len q6.cap, .int .i64 x0.2.2.2.2.2])) (
            .lit (true) [] 50 <| fun (n4 : Nat) =>
             .append 91 5 40 ⟨(some ⟨n0, 0, none⟩), 0, 0⟩ x0.2.2.2.1 <| fun (q5 : Sl) =>
              .append 50 9 72 ⟨(some ⟨n4, 0, none⟩), 0, 0⟩ x0.2.2.2.2.1 <| fun (q6 : Sl) =>
               .ret (.agg #[.int .i64 x0.1, .int .i64 r1.1, .slice r1.2.a r1.2.len r1.2.cap, .slice q3.a q3.len q3.cap, .slice q5.a q5.len q5.cap, .slice q6.a q6.len q6.cap, .int .i64 x0.2.2.2.2.2]))) (
          .lit (true) [] 50 <| fun (n3 : Nat) =>
           .append 86 2 16 ⟨(some ⟨n2, 0, none⟩), 0, 0⟩ x0.2.2.1 <| fun (q4 : Sl) =>
            .append 91 5 40 ⟨(some ⟨n0, 0, none⟩), 0, 0⟩ x0.2.2.2.1 <| fun (q5 : Sl) =>
             .append 50 9 72 ⟨(some ⟨n3, 0, none⟩), 0, 0⟩ x0.2.2.2.2.1 <| fun (q6 : Sl) =>
              .ret (.agg #[.int .i64 x0.1, .int .i64 r1.1, .slice r1.2.a r1.2.len r1.2.cap, .slice q4.a q4.len q4.cap, .slice q5.a q5.len q5.cap, .slice q6.a q6.len q6.cap, .int .i64 x0.2.2.2.2.2]))) (
        .lit (true) [] 50 <| fun (n2 : Nat) =>
         .lit (true) [] 86 <| fun (n3 : Nat) =>
          .append 86 2 16 ⟨(some ⟨n3, 0, none⟩), 0, 0⟩ x0.2.2.1 <| fun (q4 : Sl) =>
           .append 91 5 40 ⟨(some ⟨n0, 0, none⟩), 0, 0⟩ x0.2.2.2.1 <| fun (q5 : Sl) =>
            .append 50 9 72 ⟨(some ⟨n2, 0, none⟩), 0, 0⟩ x0.2.2.2.2.1 <| fun (q6 : Sl) =>
             .ret (.agg #[.int .i64 x0.1, .int .i64 r1.1, .slice r1.2.a r1.2.len r1.2.cap, .slice q4.a q4.len q4.cap, .slice q5.a q5.len q5.cap, .slice q6.a q6.len q6.cap, .int .i64 x0.2.2.2.2.2]))) (
      .both (
       .lit (true) [] 86 <| fun (n1 : Nat) =>
        .both (
         .call 15 [S23.enc x0.2.1] S23 <| fun (r2 : D23) =>
          .both (
           .append 86 2 16 ⟨(some ⟨n1, 0, none⟩), 0, 0⟩ x0.2.2.1 <| fun (q3 : Sl) =>
            .both (
             .append 91 5 40 ⟨(some ⟨n0, 0, none⟩), 0, 0⟩ x0.2.2.2.1 <| fun (q4 : Sl) =>
              .lit (true) [] 50 <| fun (n5 : Nat) =>
               .append 50 9 72 ⟨(some ⟨n5, 0, none⟩), 0, 0⟩ x0.2.2.2.2.1 <| fun (q6 : Sl) =>
                .ret (.agg #[.int .i64 x0.1, .int .i64 r2.1, .slice r2.2.a r2.2.len r2.2.cap, .slice q3.a q3.len q3.cap, .slice q4.a q4.len q4.cap, .slice q6.a q6.len q6.cap, .int .i64 x0.2.2.2.2.2])) (
             .lit (true) [] 50 <| fun (n4 : Nat) =>
              .append 91 5 40 ⟨(some ⟨n0, 0, none⟩), 0, 0⟩ x0.2.2.2.1 <| fun (q5 : Sl) =>
               .append 50 9 72 ⟨(some ⟨n4, 0, none⟩), 0, 0⟩ x0.2.2.2.2.1 <| fun (q6 : Sl) =>
                .ret (.agg #[.int .i64 x0.1, .int .i64 r2.1, .slice r2.2.a r2.2.len r2.2.cap, .slice q3.a q3.len q3.cap, .slice q5.a q5.len q5.cap, .slice q6.a q6.len q6.cap, .int .i64 x0.2.2.2.2.2]))) (
           .lit (true) [] 50 <| fun (n3 : Nat) =>
            .append 86 2 16 ⟨(some ⟨n1, 0, none⟩), 0, 0⟩ x0.2.2.1 <| fun (q4 : Sl) =>
             .append 91 5 40 ⟨(some ⟨n0, 0, none⟩), 0, 0⟩ x0.2.2.2.1 <| fun (q5 : Sl) =>
              .append 50 9 72 ⟨(some ⟨n3, 0, none⟩), 0, 0⟩ x0.2.2.2.2.1 <| fun (q6 : Sl) =>
               .ret (.agg #[.int .i64 x0.1, .int .i64 r2.1, .slice r2.2.a r2.2.len r2.2.cap, .slice q4.a q4.len q4.cap, .slice q5.a q5.len q5.cap, .slice q6.a q6.len q6.cap, .int .i64 x0.2.2.2.2.2]))) (
         .lit (true) [] 50 <| fun (n2 : Nat) =>
          .call 15 [S23.enc x0.2.1] S23 <| fun (r3 : D23) =>
           .append 86 2 16 ⟨(some ⟨n1, 0, none⟩), 0, 0⟩ x0.2.2.1 <| fun (q4 : Sl) =>
            .append 91 5 40 ⟨(some ⟨n0, 0, none⟩), 0, 0⟩ x0.2.2.2.1 <| fun (q5 : Sl) =>
             .append 50 9 72 ⟨(some ⟨n2, 0, none⟩), 0, 0⟩ x0.2.2.2.2.1 <| fun (q6 : Sl) =>
              .ret (.agg #[.int .i64 x0.1, .int .i64 r3.1, .slice r3.2.a r3.2.len r3.2.cap, .slice q4.a q4.len q4.cap, .slice q5.a q5.len q5.cap, .slice q6.a q6.len q6.cap, .int .i64 x0.2.2.2.2.2]))) (
       .lit (true) [] 50 <| fun (n1 : Nat) =>
        .both (
         .call 15 [S23.enc x0.2.1] S23 <| fun (r2 : D23) =>
          .lit (true) [] 86 <| fun (n3 : Nat) =>
           .append 86 2 16 ⟨(some ⟨n3, 0, none⟩), 0, 0⟩ x0.2.2.1 <| fun (q4 : Sl) =>
            .append 91 5 40 ⟨(some ⟨n0, 0, none⟩), 0, 0⟩ x0.2.2.2.1 <| fun (q5 : Sl) =>
             .append 50 9 72 ⟨(some ⟨n1, 0, none⟩), 0, 0⟩ x0.2.2.2.2.1 <| fun (q6 : Sl) =>
              .ret (.agg #[.int .i64 x0.1, .int .i64 r2.1, .slice r2.2.a r2.2.len r2.2.cap, .slice q4.a q4.len q4.cap, .slice q5.a q5.len q5.cap, .slice q6.a q6.len q6.cap, .int .i64 x0.2.2.2.2.2])) (
         .lit (true) [] 86 <| fun (n2 : Nat) =>
          .call 15 [S23.enc x0.2.1] S23 <| fun (r3 : D23) =>
           .append 86 2 16 ⟨(some ⟨n2, 0, none⟩), 0, 0⟩ x0.2.2.1 <| fun (q4 : Sl) =>
            .append 91 5 40 ⟨(some ⟨n0, 0, none⟩), 0, 0⟩ x0.2.2.2.1 <| fun (q5 : Sl) =>
             .append 50 9 72 ⟨(some ⟨n1, 0, none⟩), 0, 0⟩ x0.2.2.2.2.1 <| fun (q6 : Sl) =>
              .ret (.agg #[.int .i64 x0.1, .int .i64 r3.1, .slice r3.2.a r3.2.len r3.2.cap, .slice q4.a q4.len q4.cap, .slice q5.a q5.len q5.cap, .slice q6.a q6.len q6.cap, .int .i64 x0.2.2.2.2.2]))))) (
    .lit (true) [] 50 <| fun (n0 : Nat) =>
     .both (
      .call 15 [S23.enc x0.2.1] S23 <| fun (r1 : D23) =>
       .both (
        .lit (true) [] 86 <| fun (n2 : Nat) =>
         .both (
          .append 86 2 16 ⟨(some ⟨n2, 0, none⟩), 0, 0⟩ x0.2.2.1 <| fun (q3 : Sl) =>
           .lit (true) [] 91 <| fun (n4 : Nat) =>
            .append 91 5 40 ⟨(some ⟨n4, 0, none⟩), 0, 0⟩ x0.2.2.2.1 <| fun (q5 : Sl) =>
             .append 50 9 72 ⟨(some ⟨n0, 0, none⟩), 0, 0⟩ x0.2.2.2.2.1 <| fun (q6 : Sl) =>
              .ret (.agg #[.int .i64 x0.1, .int .i64 r1.1, .slice r1.2.a r1.2.len r1.2.cap, .slice q3.a q3.len q3.cap, .slice q5.a q5.len q5.cap, .slice q6.a q6.len q6.cap, .int .i64 x0.2.2.2.2.2])) (
          .lit (true) [] 91 <| fun (n3 : Nat) =>
           .append 86 2 16 ⟨(some ⟨n2, 0, none⟩), 0, 0⟩ x0.2.2.1 <| fun (q4 : Sl) =>
            .append 91 5 40 ⟨(some ⟨n3, 0, none⟩), 0, 0⟩ x0.2.2.2.1 <| fun (q5 : Sl) =>
             .append 50 9 72 ⟨(some ⟨n0, 0, none⟩), 0, 0⟩ x0.2.2.2.2.1 <| fun (q6 : Sl) =>
              .ret (.agg #[.int .i64 x0.1, .int .i64 r1.1, .slice r1.2.a r1.2.len r1.2.cap, .slice q4.a q4.len q4.cap, .slice q5.a q5.len q5.cap, .slice q6.a q6.len q6.cap, .int .i64 x0.2.2.2.2.2]))) (
        .lit (true) [] 91 <| fun (n2 : Nat) =>
         .lit (true) [] 86 <| fun (n3 : Nat) =>
          .append 86 2 16 ⟨(some ⟨n3, 0, none⟩), 0, 0⟩ x0.2.2.1 <| fun (q4 : Sl) =>
           .append 91 5 40 ⟨(some ⟨n2, 0, none⟩), 0, 0⟩ x0.2.2.2.1 <| fun (q5 : Sl) =>
            .append 50 9 72 ⟨(some ⟨n0, 0, none⟩), 0, 0⟩ x0.2.2.2.2.1 <| fun (q6 : Sl) =>
             .ret (.agg #[.int .i64 x0.1, .int .i64 r1.1, .slice r1.2.a r1.2.len r1.2.cap, .slice q4.a q4.len q4.cap, .slice q5.a q5.len q5.cap, .slice q6.a q6.len q6.cap, .int .i64 x0.2.2.2.2.2]))) (
      .both (
       .lit (true) [] 86 <| fun (n1 : Nat) =>
        .both (
         .call 15 [S23.enc x0.2.1] S23 <| fun (r2 : D23) =>
          .both (
           .append 86 2 16 ⟨(some ⟨n1, 0, none⟩), 0, 0⟩ x0.2.2.1 <| fun (q3 : Sl) =>
            .lit (true) [] 91 <| fun (n4 : Nat) =>
             .append 91 5 40 ⟨(some ⟨n4, 0, none⟩), 0, 0⟩ x0.2.2.2.1 <| fun (q5 : Sl) =>
              .append 50 9 72 ⟨(some ⟨n0, 0, none⟩), 0, 0⟩ x0.2.2.2.2.1 <| fun (q6 : Sl) =>
               .ret (.agg #[.int .i64 x0.1, .int .i64 r2.1, .slice r2.2.a r2.2.len r2.2.cap, .slice q3.a q3.len q3.cap, .slice q5.a q5.len q5.cap, .slice q6.a q6.len q6.cap, .int .i64 x0.2.2.2.2.2])) (
           .lit (true) [] 91 <| fun (n3 : Nat) =>
            .append 86 2 16 ⟨(some ⟨n1, 0, none⟩), 0, 0⟩ x0.2.2.1 <| fun (q4 : Sl) =>
             .append 91 5 40 ⟨(some ⟨n3, 0, none⟩), 0, 0⟩ x0.2.2.2.1 <| fun (q5 : Sl) =>
              .append 50 9 72 ⟨(some ⟨n0, 0, none⟩), 0, 0⟩ x0.2.2.2.2.1 <| fun (q6 : Sl) =>
               .ret (.agg #[.int .i64 x0.1, .int .i64 r2.1, .slice r2.2.a r2.2.len r2.2.cap, .slice q4.a q4.len q4.cap, .slice q5.a q5.len q5.cap, .slice q6.a q6.len q6.cap, .int .i64 x0.2.2.2.2.2]))) (
         .lit (true) [] 91 <| fun (n2 : Nat) =>
          .call 15 [S23.enc x0.2.1] S23 <| fun (r3 : D23) =>
           .append 86 2 16 ⟨(some ⟨n1, 0, none⟩), 0, 0⟩ x0.2.2.1 <| fun (q4 : Sl) =>
            .append 91 5 40 ⟨(some ⟨n2, 0, none⟩), 0, 0⟩ x0.2.2.2.1 <| fun (q5 : Sl) =>
             .append 50 9 72 ⟨(some ⟨n0, 0, none⟩), 0, 0⟩ x0.2.2.2.2.1 <| fun (q6 : Sl) =>
              .ret (.agg #[.int .i64 x0.1, .int .i64 r3.1, .slice r3.2.a r3.2.len r3.2.cap, .slice q4.a q4.len q4.cap, .slice q5.a q5.len q5.cap, .slice q6.a q6.len q6.cap, .int .i64 x0.2.2.2.2.2]))) (
       .lit (true) [] 91 <| fun (n1 : Nat) =>
        .both (
         .call 15 [S23.enc x0.2.1] S23 <| fun (r2 : D23) =>
          .lit (true) [] 86 <| fun (n3 : Nat) =>
           .append 86 2 16 ⟨(some ⟨n3, 0, none⟩), 0, 0⟩ x0.2.2.1 <| fun (q4 : Sl) =>
            .append 91 5 40 ⟨(some ⟨n1, 0, none⟩), 0, 0⟩ x0.2.2.2.1 <| fun (q5 : Sl) =>
             .append 50 9 72 ⟨(some ⟨n0, 0, none⟩), 0, 0⟩ x0.2.2.2.2.1 <| fun (q6 : Sl) =>
              .ret (.agg #[.int .i64 x0.1, .int .i64 r2.1, .slice r2.2.a r2.2.len r2.2.cap, .slice q4.a q4.len q4.cap, .slice q5.a q5.len q5.cap, .slice q6.a q6.len q6.cap, .int .i64 x0.2.2.2.2.2])) (
         .lit (true) [] 86 <| fun (n2 : Nat) =>
          .call 15 [S23.enc x0.2.1] S23 <| fun (r3 : D23) =>
           .append 86 2 16 ⟨(some ⟨n2, 0, none⟩), 0, 0⟩ x0.2.2.1 <| fun (q4 : Sl) =>
            .append 91 5 40 ⟨(some ⟨n1, 0, none⟩), 0, 0⟩ x0.2.2.2.1 <| fun (q5 : Sl) =>
             .append 50 9 72 ⟨(some ⟨n0, 0, none⟩), 0, 0⟩ x0.2.2.2.2.1 <| fun (q6 : Sl) =>
              .ret (.agg #[.int .i64 x0.1, .int .i64 r3.1, .slice r3.2.a r3.2.len r3.2.cap, .slice q4.a q4.len q4.cap, .slice q5.a q5.len q5.cap, .slice q6.a q6.len q6.cap, .int .i64 x0.2.2.2.2.2])))))))
noncomputable def fx5 : Fx := { loops := fun _ => ⟨[], [], []⟩, esc := fun n => memN n [], own := fun n => memN n [] }
theorem T5_eq (x0 : D28) : evFn cx fx5 Try.f5 [S28.enc x0] = T5 x0 := by kernel_rfl

end Go.Ev.Spare
