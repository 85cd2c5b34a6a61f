import Derived.Test.YtfioppfnjkfibaaAbCode
import Derived.Test.YtfioppfnjkfibaaProg
import Derived.KernelRfl
set_option linter.unusedSimpArgs false
set_option linter.unusedVariables false
namespace Go.Proofs
open Go Go.Ab
/-- loop.example/collabdoc/laws.FnExactValidTable: params 1, results [2] -/
def c3 : ACode :=
  (.seq
   (.reg [
     ⟨(some 2), (.mov (.c (.l (.v (.bool false))))), none⟩] [])
   (.seq
    (.reg [
      ⟨(some 3), (.mov (.c (.l (.v (.int .i64 1048576))))), none⟩] [])
    (.seq
     (.reg [
       ⟨(some 7), (.mov (.t 0)), none⟩,
       ⟨(some 8), (.mov (.t 3)), none⟩,
       ⟨(some 9), (.call (.c (.l (.clos 10 []))) [(.t 7), (.t 8)]), none⟩,
       ⟨(some 3), (.mov (.t 9)), none⟩] [])
     (.seq
      (.seq
       (.reg [
         ⟨(some 10), (.mov (.t 3)), none⟩,
         ⟨(some 11), (.bin .lss (.t 10) (.c (.l (.v (.int .i64 0))))), none⟩] [])
       (.cond (.t 11)
        (.seq
         (.reg [
           ⟨(some 2), (.mov (.c (.l (.v (.bool true))))), none⟩] [])
         .ret)
        .skip))
      (.seq
       (.reg [
         ⟨(some 12), (.mov (.t 0)), none⟩,
         ⟨(some 13), (.call (.c (.l (.clos 12 []))) [(.t 12)]), none⟩,
         ⟨(some 14), (.call (.c (.l (.clos 11 []))) [(.t 13)]), none⟩,
         ⟨(some 4), (.mov (.t 14)), none⟩] [])
       (.seq
        (.reg [
          ⟨(some 15), (.mov (.t 0)), none⟩,
          ⟨(some 16), (.call (.c (.l (.clos 12 []))) [(.t 15)]), none⟩,
          ⟨(some 5), (.mov (.t 16)), none⟩] [])
        (.seq
         (.reg [
           ⟨(some 17), (.mov (.t 5)), none⟩,
           ⟨(some 18), (.call (.c (.l (.clos 13 []))) [(.t 17)]), none⟩,
           ⟨(some 6), (.mov (.t 18)), none⟩] [])
         (.seq
          (.seq
           (.reg [
             ⟨(some 19), (.mov (.t 6)), none⟩,
             ⟨(some 20), (.mov (.t 4)), none⟩,
             ⟨(some 21), (.eqb true (.t 19) (.t 20)), none⟩] [])
           (.cond (.t 21)
            (.seq
             (.reg [
               ⟨(some 2), (.mov (.c (.l (.v (.bool false))))), none⟩] [])
             .ret)
            .skip))
          (.seq
           (.seq
            (.reg [
              ⟨(some 22), (.mov (.t 5)), none⟩,
              ⟨(some 23), (.mov (.t 0)), none⟩,
              ⟨(some 24), (.call (.c (.l (.clos 12 []))) [(.t 23)]), none⟩,
              ⟨(some 25), (.call (.c (.l (.clos 14 []))) [(.t 22), (.t 24)]), none⟩,
              ⟨(some 26), (.notb (.t 25)), none⟩] [])
            (.cond (.t 26)
             (.seq
              (.reg [
                ⟨(some 2), (.mov (.c (.l (.v (.bool false))))), none⟩] [])
              .ret)
             .skip))
           (.seq
            (.reg [
              ⟨(some 2), (.mov (.c (.l (.v (.bool true))))), none⟩] [])
            .ret))))))))))
theorem c3_eq : Try.f3.body.bind (comp Try.prog Try.f3.ntmps) = some c3 := by kernel_rfl

/-- loop.example/collabdoc/laws.szTableOpS: params 2, results [4] -/
def c10 : ACode :=
  (.seq
   (.reg [
     ⟨(some 4), (.mov (.c (.l (.v (.int .i64 0))))), none⟩] [])
   (.seq
    (.reg [
      ⟨(some 6), (.mov (.t 1)), none⟩,
      ⟨(some 7), (.mov (.t 0)), none⟩,
      ⟨(some 8), (.len (.t 7)), none⟩,
      ⟨(some 9), (.bin .sub (.t 6) (.t 8)), none⟩,
      ⟨(some 1), (.mov (.t 9)), none⟩] [])
    (.seq
     (.seq
      (.reg [
        ⟨(some 10), (.mov (.t 1)), none⟩,
        ⟨(some 11), (.bin .lss (.t 10) (.c (.l (.v (.int .i64 0))))), none⟩] [])
      (.cond (.t 11)
       (.seq
        (.reg [
          ⟨(some 4), (.mov (.c (.l (.v (.int .i64 (-1)))))), none⟩] [])
        .ret)
       .skip))
     (.seq
      (.seq
       (.reg [
         ⟨(some 5), (.mov (.c (.l (.v (.int .i64 0))))), none⟩] [])
       (.block 0
        (.loop
         (.seq
          (.seq
           (.reg [
             ⟨(some 12), (.mov (.t 5)), none⟩,
             ⟨(some 13), (.mov (.t 0)), none⟩,
             ⟨(some 14), (.len (.t 13)), none⟩,
             ⟨(some 15), (.bin .lss (.t 12) (.t 14)), none⟩] [])
           (.cond (.t 15)
            .skip
            (.exit 0)))
          (.seq
           (.block 1
            (.seq
             (.reg [
               ⟨(some 18), (.mov (.t 0)), none⟩,
               ⟨(some 19), (.mov (.t 5)), none⟩,
               ⟨(some 20), (.iaddr 8 (.t 18) (.t 19)), none⟩,
               ⟨(some 21), (.load 8 true (.t 20)), none⟩,
               ⟨(some 22), (.mov (.t 1)), none⟩,
               ⟨(some 23), (.call (.c (.l (.clos 25 []))) [(.t 21), (.t 22)]), none⟩,
               ⟨(some 1), (.mov (.t 23)), none⟩] [])
             (.seq
              (.reg [
                ⟨(some 24), (.mov (.t 1)), none⟩,
                ⟨(some 25), (.bin .lss (.t 24) (.c (.l (.v (.int .i64 0))))), none⟩] [])
              (.cond (.t 25)
               (.seq
                (.reg [
                  ⟨(some 4), (.mov (.c (.l (.v (.int .i64 (-1)))))), none⟩] [])
                .ret)
               .skip))))
           (.reg [
             ⟨(some 16), (.mov (.t 5)), none⟩,
             ⟨(some 17), (.bin .add (.t 16) (.c (.l (.v (.int .i64 1))))), none⟩,
             ⟨(some 5), (.mov (.t 17)), none⟩] []))))))
      (.seq
       (.reg [
         ⟨(some 26), (.mov (.t 1)), none⟩,
         ⟨(some 4), (.mov (.t 26)), none⟩] [])
       .ret)))))
theorem c10_eq : Try.f10.body.bind (comp Try.prog Try.f10.ntmps) = some c10 := by kernel_rfl

/-- loop.example/collabdoc/spec.ValidTable: params 1, results [2] -/
def c11 : ACode :=
  (.seq
   (.reg [
     ⟨(some 2), (.mov (.c (.l (.v (.bool false))))), none⟩] [])
   (.seq
    (.reg [
      ⟨(some 3), (.mov (.t 0)), none⟩,
      ⟨(some 4), (.call (.c (.l (.clos 33 []))) [(.t 3)]), none⟩,
      ⟨(some 2), (.mov (.t 4)), none⟩] [])
    .ret))
theorem c11_eq : Try.f11.body.bind (comp Try.prog Try.f11.ntmps) = some c11 := by kernel_rfl

/-- loop.example/collabdoc/laws.toTableOpS: params 1, results [2] -/
def c12 : ACode :=
  (.seq
   (.reg [
     ⟨(some 2), (.mov (.c (.l .emp))), none⟩] [])
   (.seq
    (.reg [
      ⟨(some 5), (.mov (.t 0)), none⟩,
      ⟨(some 6), (.len (.t 5)), none⟩,
      ⟨(some 7), (.mk 72 [(.v (.int .i64 0)), (.v (.int .i64 0)), (.v (.int .i64 0)), (.v (.int .i64 0)), (.v (.int .i64 0)), (.v (.int .i64 0)), (.v (.int .i64 0)), (.v (.string ⟨#[]⟩))] (.t 6) (.t 6)), none⟩,
      ⟨(some 3), (.mov (.t 7)), none⟩] [])
    (.seq
     (.seq
      (.reg [
        ⟨(some 4), (.mov (.c (.l (.v (.int .i64 0))))), none⟩] [])
      (.block 0
       (.loop
        (.seq
         (.seq
          (.reg [
            ⟨(some 8), (.mov (.t 4)), none⟩,
            ⟨(some 9), (.mov (.t 0)), none⟩,
            ⟨(some 10), (.len (.t 9)), none⟩,
            ⟨(some 11), (.bin .lss (.t 8) (.t 10)), none⟩] [])
          (.cond (.t 11)
           .skip
           (.exit 0)))
         (.seq
          (.block 1
           (.reg [
             ⟨(some 14), (.mov (.t 3)), none⟩,
             ⟨(some 15), (.mov (.t 4)), none⟩,
             ⟨(some 16), (.mov (.t 0)), none⟩,
             ⟨(some 17), (.mov (.t 4)), none⟩,
             ⟨(some 18), (.iaddr 8 (.t 16) (.t 17)), none⟩,
             ⟨(some 19), (.load 8 true (.t 18)), none⟩,
             ⟨(some 20), (.call (.c (.l (.clos 26 []))) [(.t 19)]), none⟩,
             ⟨(some 21), (.iaddr 8 (.t 14) (.t 15)), none⟩,
             ⟨none, (.store 8 (.t 21) (.t 20)), none⟩] []))
          (.reg [
            ⟨(some 12), (.mov (.t 4)), none⟩,
            ⟨(some 13), (.bin .add (.t 12) (.c (.l (.v (.int .i64 1))))), none⟩,
            ⟨(some 4), (.mov (.t 13)), none⟩] []))))))
     (.seq
      (.reg [
        ⟨(some 22), (.mov (.t 3)), none⟩,
        ⟨(some 2), (.mov (.t 22)), none⟩] [])
      .ret))))
theorem c12_eq : Try.f12.body.bind (comp Try.prog Try.f12.ntmps) = some c12 := by kernel_rfl

/-- loop.example/collabdoc/impl.ValidTable: params 1, results [2] -/
def c13 : ACode :=
  (.seq
   (.reg [
     ⟨(some 2), (.mov (.c (.l (.v (.bool false))))), none⟩] [])
   (.seq
    (.seq
     (.reg [
       ⟨(some 5), (.mov (.t 0)), none⟩,
       ⟨(some 6), (.len (.t 5)), none⟩,
       ⟨(some 7), (.mov (.c (.l (.v (.int .i64 0))))), none⟩] [])
     (.block 0
      (.loop
       (.seq
        (.reg [
          ⟨(some 8), (.bin .lss (.t 7) (.t 6)), none⟩] [])
        (.seq
         (.cond (.t 8)
          .skip
          (.exit 0))
         (.seq
          (.block 1
           (.seq
            (.reg [
              ⟨(some 9), (.mov (.t 7)), none⟩,
              ⟨(some 10), (.iaddr 8 (.t 5) (.t 7)), none⟩,
              ⟨(some 11), (.load 8 true (.t 10)), none⟩,
              ⟨(some 4), (.alloc [(.v (.int .i64 0)), (.v (.int .i64 0)), (.v (.int .i64 0)), (.v (.int .i64 0)), (.v (.int .i64 0)), (.v (.int .i64 0)), (.v (.int .i64 0)), (.v (.string ⟨#[]⟩))]), none⟩,
              ⟨(some 3), (.mov (.t 9)), none⟩,
              ⟨none, (.store 8 (.t 4) (.t 11)), none⟩] [])
            (.seq
             (.reg [
               ⟨(some 12), (.load 8 true (.t 4)), none⟩,
               ⟨(some 13), (.call (.c (.l (.clos 34 []))) [(.t 12)]), none⟩,
               ⟨(some 14), (.notb (.t 13)), none⟩,
               ⟨(some 15), (.mov (.t 14)), none⟩,
               ⟨(some 16), (.mov (.t 3)), (some (15, false))⟩,
               ⟨(some 17), (.bin .gtr (.t 16) (.c (.l (.v (.int .i64 0))))), (some (15, false))⟩,
               ⟨(some 18), (.mov (.t 17)), (some (15, false))⟩,
               ⟨(some 19), (.mov (.t 0)), (some (18, true))⟩,
               ⟨(some 20), (.mov (.t 3)), (some (18, true))⟩,
               ⟨(some 21), (.bin .sub (.t 20) (.c (.l (.v (.int .i64 1))))), (some (18, true))⟩,
               ⟨(some 22), (.iaddr 8 (.t 19) (.t 21)), (some (18, true))⟩,
               ⟨(some 23), (.faddr 0 (.t 22)), (some (18, true))⟩,
               ⟨(some 24), (.load 2 true (.t 23)), (some (18, true))⟩,
               ⟨(some 25), (.faddr 0 (.t 4)), (some (18, true))⟩,
               ⟨(some 26), (.load 2 true (.t 25)), (some (18, true))⟩,
               ⟨(some 27), (.call (.c (.l (.clos 35 []))) [(.t 24), (.t 26)]), (some (18, true))⟩,
               ⟨(some 28), (.notb (.t 27)), (some (18, true))⟩,
               ⟨(some 29), (.pick (.t 18) (.t 28) (.c (.l (.v (.bool false))))), (some (15, false))⟩,
               ⟨(some 30), (.pick (.t 15) (.c (.l (.v (.bool true)))) (.t 29)), none⟩] [])
             (.cond (.t 30)
              (.seq
               (.reg [
                 ⟨(some 2), (.mov (.c (.l (.v (.bool false))))), none⟩] [])
               .ret)
              .skip))))
          (.reg [
            ⟨(some 31), (.bin .add (.t 7) (.c (.l (.v (.int .i64 1))))), none⟩,
            ⟨(some 7), (.mov (.t 31)), none⟩] [])))))))
    (.seq
     (.reg [
       ⟨(some 32), (.mov (.t 0)), none⟩,
       ⟨(some 33), (.len (.t 32)), none⟩,
       ⟨(some 34), (.bin .leq (.t 33) (.c (.l (.v (.int .i64 40))))), none⟩,
       ⟨(some 2), (.mov (.t 34)), none⟩] [])
     .ret)))
theorem c13_eq : Try.f13.body.bind (comp Try.prog Try.f13.ntmps) = some c13 := by kernel_rfl

/-- loop.example/collabdoc/laws.eqTableOpS: params 2, results [4] -/
def c14 : ACode :=
  (.seq
   (.reg [
     ⟨(some 4), (.mov (.c (.l (.v (.bool false))))), none⟩] [])
   (.seq
    (.seq
     (.reg [
       ⟨(some 6), (.mov (.t 0)), none⟩,
       ⟨(some 7), (.len (.t 6)), none⟩,
       ⟨(some 8), (.mov (.t 1)), none⟩,
       ⟨(some 9), (.len (.t 8)), none⟩,
       ⟨(some 10), (.bin .neq (.t 7) (.t 9)), none⟩] [])
     (.cond (.t 10)
      (.seq
       (.reg [
         ⟨(some 4), (.mov (.c (.l (.v (.bool false))))), none⟩] [])
       .ret)
      .skip))
    (.seq
     (.seq
      (.reg [
        ⟨(some 5), (.mov (.c (.l (.v (.int .i64 0))))), none⟩] [])
      (.block 0
       (.loop
        (.seq
         (.seq
          (.reg [
            ⟨(some 11), (.mov (.t 5)), none⟩,
            ⟨(some 12), (.mov (.t 0)), none⟩,
            ⟨(some 13), (.len (.t 12)), none⟩,
            ⟨(some 14), (.bin .lss (.t 11) (.t 13)), none⟩] [])
          (.cond (.t 14)
           .skip
           (.exit 0)))
         (.seq
          (.block 1
           (.seq
            (.reg [
              ⟨(some 17), (.mov (.t 0)), none⟩,
              ⟨(some 18), (.mov (.t 5)), none⟩,
              ⟨(some 19), (.iaddr 8 (.t 17) (.t 18)), none⟩,
              ⟨(some 20), (.load 8 true (.t 19)), none⟩,
              ⟨(some 21), (.mov (.t 1)), none⟩,
              ⟨(some 22), (.mov (.t 5)), none⟩,
              ⟨(some 23), (.iaddr 8 (.t 21) (.t 22)), none⟩,
              ⟨(some 24), (.load 8 true (.t 23)), none⟩,
              ⟨(some 25), (.call (.c (.l (.clos 36 []))) [(.t 20), (.t 24)]), none⟩,
              ⟨(some 26), (.notb (.t 25)), none⟩] [])
            (.cond (.t 26)
             (.seq
              (.reg [
                ⟨(some 4), (.mov (.c (.l (.v (.bool false))))), none⟩] [])
              .ret)
             .skip)))
          (.reg [
            ⟨(some 15), (.mov (.t 5)), none⟩,
            ⟨(some 16), (.bin .add (.t 15) (.c (.l (.v (.int .i64 1))))), none⟩,
            ⟨(some 5), (.mov (.t 16)), none⟩] []))))))
     (.seq
      (.reg [
        ⟨(some 4), (.mov (.c (.l (.v (.bool true))))), none⟩] [])
      .ret))))
theorem c14_eq : Try.f14.body.bind (comp Try.prog Try.f14.ntmps) = some c14 := by kernel_rfl

/-- loop.example/collabdoc/laws.szTableOp: params 2, results [4] -/
def c25 : ACode :=
  (.seq
   (.reg [
     ⟨(some 2), (.box (.t 0)), none⟩,
     ⟨(some 4), (.mov (.c (.l (.v (.int .i64 0))))), none⟩] [])
   (.seq
    (.reg [
      ⟨(some 5), (.mov (.t 1)), none⟩,
      ⟨(some 6), (.faddr 7 (.t 2)), none⟩,
      ⟨(some 7), (.load 1 false (.t 6)), none⟩,
      ⟨(some 8), (.slen (.t 7)), none⟩,
      ⟨(some 9), (.bin .sub (.t 5) (.t 8)), none⟩,
      ⟨(some 1), (.mov (.t 9)), none⟩] [])
    (.seq
     (.seq
      (.reg [
        ⟨(some 10), (.mov (.t 1)), none⟩,
        ⟨(some 11), (.bin .lss (.t 10) (.c (.l (.v (.int .i64 0))))), none⟩] [])
      (.cond (.t 11)
       (.seq
        (.reg [
          ⟨(some 4), (.mov (.c (.l (.v (.int .i64 (-1)))))), none⟩] [])
        .ret)
       .skip))
     (.seq
      (.reg [
        ⟨(some 12), (.mov (.t 1)), none⟩,
        ⟨(some 4), (.mov (.t 12)), none⟩] [])
      .ret))))
theorem c25_eq : Try.f25.body.bind (comp Try.prog Try.f25.ntmps) = some c25 := by kernel_rfl

/-- loop.example/collabdoc/laws.toTableOp: params 1, results [CELL 2] -/
def c26 : ACode :=
  (.seq
   (.reg [
     ⟨(some 1), (.box (.t 0)), none⟩,
     ⟨(some 2), (.alloc [(.v (.int .i64 0)), (.v (.int .i64 0)), (.v (.int .i64 0)), (.v (.int .i64 0)), (.v (.int .i64 0)), (.v (.int .i64 0)), (.v (.int .i64 0)), (.v (.string ⟨#[]⟩))]), none⟩] [])
   (.seq
    (.reg [
      ⟨(some 3), (.alloc [(.v (.int .i64 0)), (.v (.int .i64 0)), (.v (.int .i64 0)), (.v (.int .i64 0)), (.v (.int .i64 0)), (.v (.int .i64 0)), (.v (.int .i64 0)), (.v (.string ⟨#[]⟩))]), none⟩] [])
    (.seq
     (.reg [
       ⟨(some 4), (.faddr 0 (.t 1)), none⟩,
       ⟨(some 5), (.load 2 true (.t 4)), none⟩,
       ⟨(some 6), (.call (.c (.l (.clos 47 []))) [(.t 5)]), none⟩,
       ⟨(some 7), (.faddr 0 (.t 3)), none⟩,
       ⟨none, (.store 2 (.t 7) (.t 6)), none⟩] [])
     (.seq
      (.reg [
        ⟨(some 8), (.faddr 2 (.t 1)), none⟩,
        ⟨(some 9), (.load 1 false (.t 8)), none⟩,
        ⟨(some 10), (.faddr 2 (.t 3)), none⟩,
        ⟨none, (.store 1 (.t 10) (.t 9)), none⟩] [])
      (.seq
       (.reg [
         ⟨(some 11), (.faddr 3 (.t 1)), none⟩,
         ⟨(some 12), (.load 2 true (.t 11)), none⟩,
         ⟨(some 13), (.call (.c (.l (.clos 47 []))) [(.t 12)]), none⟩,
         ⟨(some 14), (.faddr 3 (.t 3)), none⟩,
         ⟨none, (.store 2 (.t 14) (.t 13)), none⟩] [])
       (.seq
        (.reg [
          ⟨(some 15), (.faddr 5 (.t 1)), none⟩,
          ⟨(some 16), (.load 2 true (.t 15)), none⟩,
          ⟨(some 17), (.call (.c (.l (.clos 47 []))) [(.t 16)]), none⟩,
          ⟨(some 18), (.faddr 5 (.t 3)), none⟩,
          ⟨none, (.store 2 (.t 18) (.t 17)), none⟩] [])
        (.seq
         (.reg [
           ⟨(some 19), (.faddr 7 (.t 1)), none⟩,
           ⟨(some 20), (.load 1 false (.t 19)), none⟩,
           ⟨(some 21), (.faddr 7 (.t 3)), none⟩,
           ⟨none, (.store 1 (.t 21) (.t 20)), none⟩] [])
         (.seq
          (.reg [
            ⟨(some 22), (.load 8 true (.t 3)), none⟩,
            ⟨none, (.store 8 (.t 2) (.t 22)), none⟩] [])
          .ret))))))))
theorem c26_eq : Try.f26.body.bind (comp Try.prog Try.f26.ntmps) = some c26 := by kernel_rfl

/-- loop.example/collabdoc/spec.validTable: params 1, results [2] -/
def c33 : ACode :=
  (.seq
   (.reg [
     ⟨(some 2), (.mov (.c (.l (.v (.bool false))))), none⟩] [])
   (.seq
    (.seq
     (.reg [
       ⟨(some 3), (.mov (.c (.l (.v (.int .i64 0))))), none⟩] [])
     (.block 0
      (.loop
       (.seq
        (.seq
         (.reg [
           ⟨(some 4), (.mov (.t 3)), none⟩,
           ⟨(some 5), (.mov (.t 0)), none⟩,
           ⟨(some 6), (.len (.t 5)), none⟩,
           ⟨(some 7), (.bin .lss (.t 4) (.t 6)), none⟩] [])
         (.cond (.t 7)
          .skip
          (.exit 0)))
        (.seq
         (.block 1
          (.seq
           (.reg [
             ⟨(some 10), (.mov (.t 0)), none⟩,
             ⟨(some 11), (.mov (.t 3)), none⟩,
             ⟨(some 12), (.iaddr 8 (.t 10) (.t 11)), none⟩,
             ⟨(some 13), (.load 8 true (.t 12)), none⟩,
             ⟨(some 14), (.call (.c (.l (.clos 44 []))) [(.t 13)]), none⟩,
             ⟨(some 15), (.notb (.t 14)), none⟩,
             ⟨(some 16), (.mov (.t 15)), none⟩,
             ⟨(some 17), (.mov (.t 3)), (some (16, false))⟩,
             ⟨(some 18), (.bin .gtr (.t 17) (.c (.l (.v (.int .i64 0))))), (some (16, false))⟩,
             ⟨(some 19), (.mov (.t 18)), (some (16, false))⟩,
             ⟨(some 20), (.mov (.t 0)), (some (19, true))⟩,
             ⟨(some 21), (.mov (.t 3)), (some (19, true))⟩,
             ⟨(some 22), (.bin .sub (.t 21) (.c (.l (.v (.int .i64 1))))), (some (19, true))⟩,
             ⟨(some 23), (.iaddr 8 (.t 20) (.t 22)), (some (19, true))⟩,
             ⟨(some 24), (.faddr 0 (.t 23)), (some (19, true))⟩,
             ⟨(some 25), (.load 2 true (.t 24)), (some (19, true))⟩,
             ⟨(some 26), (.mov (.t 0)), (some (19, true))⟩,
             ⟨(some 27), (.mov (.t 3)), (some (19, true))⟩,
             ⟨(some 28), (.iaddr 8 (.t 26) (.t 27)), (some (19, true))⟩,
             ⟨(some 29), (.faddr 0 (.t 28)), (some (19, true))⟩,
             ⟨(some 30), (.load 2 true (.t 29)), (some (19, true))⟩,
             ⟨(some 31), (.call (.c (.l (.clos 43 []))) [(.t 25), (.t 30)]), (some (19, true))⟩,
             ⟨(some 32), (.notb (.t 31)), (some (19, true))⟩,
             ⟨(some 33), (.pick (.t 19) (.t 32) (.c (.l (.v (.bool false))))), (some (16, false))⟩,
             ⟨(some 34), (.pick (.t 16) (.c (.l (.v (.bool true)))) (.t 33)), none⟩] [])
           (.cond (.t 34)
            (.seq
             (.reg [
               ⟨(some 2), (.mov (.c (.l (.v (.bool false))))), none⟩] [])
             .ret)
            .skip)))
         (.reg [
           ⟨(some 8), (.mov (.t 3)), none⟩,
           ⟨(some 9), (.bin .add (.t 8) (.c (.l (.v (.int .i64 1))))), none⟩,
           ⟨(some 3), (.mov (.t 9)), none⟩] []))))))
    (.seq
     (.reg [
       ⟨(some 35), (.mov (.t 0)), none⟩,
       ⟨(some 36), (.len (.t 35)), none⟩,
       ⟨(some 37), (.bin .leq (.t 36) (.c (.l (.v (.int .i64 40))))), none⟩,
       ⟨(some 2), (.mov (.t 37)), none⟩] [])
     .ret)))
theorem c33_eq : Try.f33.body.bind (comp Try.prog Try.f33.ntmps) = some c33 := by kernel_rfl

/-- loop.example/collabdoc/impl.validTableOp: params 1, results [2] -/
def c34 : ACode :=
  (.seq
   (.reg [
     ⟨(some 1), (.box (.t 0)), none⟩,
     ⟨(some 2), (.mov (.c (.l (.v (.bool false))))), none⟩] [])
   (.seq
    (.reg [
      ⟨(some 6), (.build [(.v (.int .i64 0)), (.v (.int .i64 0))] []), none⟩,
      ⟨(some 3), (.alloc [(.v (.int .i64 0)), (.v (.int .i64 0))]), none⟩,
      ⟨none, (.store 2 (.t 3) (.t 6)), none⟩] [])
    (.seq
     (.seq
      (.reg [
        ⟨(some 7), (.faddr 3 (.t 1)), none⟩,
        ⟨(some 8), (.load 2 true (.t 7)), none⟩,
        ⟨(some 9), (.faddr 5 (.t 1)), none⟩,
        ⟨(some 10), (.load 2 true (.t 9)), none⟩,
        ⟨(some 11), (.bsl 2 [(.v (.int .i64 0)), (.v (.int .i64 0))] [(0, (.t 8)), (1, (.t 10))]), none⟩,
        ⟨(some 12), (.len (.t 11)), none⟩,
        ⟨(some 13), (.mov (.c (.l (.v (.int .i64 0))))), none⟩] [])
      (.block 0
       (.loop
        (.seq
         (.reg [
           ⟨(some 14), (.bin .lss (.t 13) (.t 12)), none⟩] [])
         (.seq
          (.cond (.t 14)
           .skip
           (.exit 0))
          (.seq
           (.block 1
            (.seq
             (.reg [
               ⟨(some 15), (.iaddr 2 (.t 11) (.t 13)), none⟩,
               ⟨(some 16), (.load 2 true (.t 15)), none⟩,
               ⟨(some 5), (.alloc [(.v (.int .i64 0)), (.v (.int .i64 0))]), none⟩,
               ⟨none, (.store 2 (.t 5) (.t 16)), none⟩] [])
             (.seq
              (.reg [
                ⟨(some 17), (.load 2 true (.t 5)), none⟩,
                ⟨(some 18), (.load 2 true (.t 3)), none⟩,
                ⟨(some 19), (.eqs true [(.i .i64), (.i .i64)] (.t 17) (.t 18)), none⟩,
                ⟨(some 20), (.mov (.t 19)), none⟩,
                ⟨(some 21), (.load 2 true (.t 5)), (some (20, true))⟩,
                ⟨(some 22), (.call (.c (.l (.clos 54 []))) [(.t 21)]), (some (20, true))⟩,
                ⟨(some 23), (.notb (.t 22)), (some (20, true))⟩,
                ⟨(some 24), (.mov (.t 23)), (some (20, true))⟩,
                ⟨(some 25), (.load 2 true (.t 5)), (some (24, false))⟩,
                ⟨(some 26), (.faddr 0 (.t 1)), (some (24, false))⟩,
                ⟨(some 27), (.load 2 true (.t 26)), (some (24, false))⟩,
                ⟨(some 28), (.call (.c (.l (.clos 35 []))) [(.t 25), (.t 27)]), (some (24, false))⟩,
                ⟨(some 29), (.notb (.t 28)), (some (24, false))⟩,
                ⟨(some 30), (.pick (.t 24) (.c (.l (.v (.bool true)))) (.t 29)), (some (20, true))⟩,
                ⟨(some 31), (.pick (.t 20) (.t 30) (.c (.l (.v (.bool false))))), none⟩] [])
              (.cond (.t 31)
               (.seq
                (.reg [
                  ⟨(some 2), (.mov (.c (.l (.v (.bool false))))), none⟩] [])
                .ret)
               .skip))))
           (.reg [
             ⟨(some 32), (.bin .add (.t 13) (.c (.l (.v (.int .i64 1))))), none⟩,
             ⟨(some 13), (.mov (.t 32)), none⟩] [])))))))
     (.seq
      (.seq
       (.reg [
         ⟨(some 33), (.faddr 0 (.t 1)), none⟩,
         ⟨(some 34), (.load 2 true (.t 33)), none⟩,
         ⟨(some 35), (.call (.c (.l (.clos 54 []))) [(.t 34)]), none⟩,
         ⟨(some 36), (.notb (.t 35)), none⟩] [])
       (.cond (.t 36)
        (.seq
         (.reg [
           ⟨(some 2), (.mov (.c (.l (.v (.bool false))))), none⟩] [])
         .ret)
        .skip))
      (.seq
       (.seq
        (.reg [
          ⟨(some 37), (.faddr 2 (.t 1)), none⟩,
          ⟨(some 38), (.load 1 false (.t 37)), none⟩] [])
        (.block 2
         (.seq
          (.seq
           (.reg [
             ⟨(some 40), (.bin .eql (.t 38) (.c (.l (.v (.int .i64 1))))), none⟩,
             ⟨(some 39), (.mov (.t 40)), none⟩] [])
           (.cond (.t 39)
            .skip
            (.reg [
              ⟨(some 41), (.bin .eql (.t 38) (.c (.l (.v (.int .i64 2))))), none⟩,
              ⟨(some 39), (.mov (.t 41)), none⟩] [])))
          (.cond (.t 39)
           (.seq
            (.reg [
              ⟨(some 42), (.faddr 5 (.t 1)), none⟩,
              ⟨(some 43), (.load 2 true (.t 42)), none⟩,
              ⟨(some 44), (.load 2 true (.t 3)), none⟩,
              ⟨(some 45), (.eqs false [(.i .i64), (.i .i64)] (.t 43) (.t 44)), none⟩,
              ⟨(some 46), (.mov (.t 45)), none⟩,
              ⟨(some 47), (.faddr 7 (.t 1)), (some (46, true))⟩,
              ⟨(some 48), (.load 1 false (.t 47)), (some (46, true))⟩,
              ⟨(some 49), (.bin .eql (.t 48) (.c (.l (.v (.string ⟨#[]⟩))))), (some (46, true))⟩,
              ⟨(some 50), (.pick (.t 46) (.t 49) (.c (.l (.v (.bool false))))), none⟩,
              ⟨(some 2), (.mov (.t 50)), none⟩] [])
            .ret)
           (.seq
            (.reg [
              ⟨(some 52), (.bin .eql (.t 38) (.c (.l (.v (.int .i64 3))))), none⟩,
              ⟨(some 51), (.mov (.t 52)), none⟩] [])
            (.cond (.t 51)
             (.seq
              (.reg [
                ⟨(some 53), (.faddr 3 (.t 1)), none⟩,
                ⟨(some 54), (.load 2 true (.t 53)), none⟩,
                ⟨(some 55), (.load 2 true (.t 3)), none⟩,
                ⟨(some 56), (.eqs true [(.i .i64), (.i .i64)] (.t 54) (.t 55)), none⟩,
                ⟨(some 57), (.mov (.t 56)), none⟩,
                ⟨(some 58), (.faddr 5 (.t 1)), (some (57, true))⟩,
                ⟨(some 59), (.load 2 true (.t 58)), (some (57, true))⟩,
                ⟨(some 60), (.load 2 true (.t 3)), (some (57, true))⟩,
                ⟨(some 61), (.eqs false [(.i .i64), (.i .i64)] (.t 59) (.t 60)), (some (57, true))⟩,
                ⟨(some 62), (.pick (.t 57) (.t 61) (.c (.l (.v (.bool false))))), none⟩,
                ⟨(some 63), (.mov (.t 62)), none⟩,
                ⟨(some 64), (.faddr 7 (.t 1)), (some (63, true))⟩,
                ⟨(some 65), (.load 1 false (.t 64)), (some (63, true))⟩,
                ⟨(some 66), (.bin .eql (.t 65) (.c (.l (.v (.string ⟨#[]⟩))))), (some (63, true))⟩,
                ⟨(some 67), (.pick (.t 63) (.t 66) (.c (.l (.v (.bool false))))), none⟩,
                ⟨(some 2), (.mov (.t 67)), none⟩] [])
              .ret)
             (.seq
              (.reg [
                ⟨(some 69), (.bin .eql (.t 38) (.c (.l (.v (.int .i64 4))))), none⟩,
                ⟨(some 68), (.mov (.t 69)), none⟩] [])
              (.cond (.t 68)
               (.seq
                (.reg [
                  ⟨(some 70), (.faddr 3 (.t 1)), none⟩,
                  ⟨(some 71), (.load 2 true (.t 70)), none⟩,
                  ⟨(some 72), (.load 2 true (.t 3)), none⟩,
                  ⟨(some 73), (.eqs true [(.i .i64), (.i .i64)] (.t 71) (.t 72)), none⟩,
                  ⟨(some 74), (.mov (.t 73)), none⟩,
                  ⟨(some 75), (.faddr 5 (.t 1)), (some (74, true))⟩,
                  ⟨(some 76), (.load 2 true (.t 75)), (some (74, true))⟩,
                  ⟨(some 77), (.load 2 true (.t 3)), (some (74, true))⟩,
                  ⟨(some 78), (.eqs true [(.i .i64), (.i .i64)] (.t 76) (.t 77)), (some (74, true))⟩,
                  ⟨(some 79), (.pick (.t 74) (.t 78) (.c (.l (.v (.bool false))))), none⟩,
                  ⟨(some 80), (.mov (.t 79)), none⟩,
                  ⟨(some 81), (.faddr 7 (.t 1)), (some (80, true))⟩,
                  ⟨(some 82), (.load 1 false (.t 81)), (some (80, true))⟩,
                  ⟨(some 83), (.bin .eql (.t 82) (.c (.l (.v (.string ⟨#[]⟩))))), (some (80, true))⟩,
                  ⟨(some 84), (.mov (.t 83)), (some (80, true))⟩,
                  ⟨(some 85), (.faddr 7 (.t 1)), (some (84, false))⟩,
                  ⟨(some 86), (.load 1 false (.t 85)), (some (84, false))⟩,
                  ⟨(some 87), (.call (.c (.l (.clos 55 []))) [(.t 86)]), (some (84, false))⟩,
                  ⟨(some 88), (.pick (.t 84) (.c (.l (.v (.bool true)))) (.t 87)), (some (80, true))⟩,
                  ⟨(some 89), (.pick (.t 80) (.t 88) (.c (.l (.v (.bool false))))), none⟩,
                  ⟨(some 2), (.mov (.t 89)), none⟩] [])
                .ret)
               .skip))))))))
       (.seq
        (.reg [
          ⟨(some 2), (.mov (.c (.l (.v (.bool false))))), none⟩] [])
        .ret))))))
theorem c34_eq : Try.f34.body.bind (comp Try.prog Try.f34.ntmps) = some c34 := by kernel_rfl

/-- loop.example/collabdoc/impl.StampLess: params 2, results [4] -/
def c35 : ACode :=
  (.seq
   (.reg [
     ⟨(some 2), (.box (.t 0)), none⟩,
     ⟨(some 3), (.box (.t 1)), none⟩,
     ⟨(some 4), (.mov (.c (.l (.v (.bool false))))), none⟩] [])
   (.seq
    (.reg [
      ⟨(some 5), (.faddr 0 (.t 2)), none⟩,
      ⟨(some 6), (.load 1 false (.t 5)), none⟩,
      ⟨(some 7), (.faddr 0 (.t 3)), none⟩,
      ⟨(some 8), (.load 1 false (.t 7)), none⟩,
      ⟨(some 9), (.bin .lss (.t 6) (.t 8)), none⟩,
      ⟨(some 10), (.mov (.t 9)), none⟩,
      ⟨(some 11), (.faddr 0 (.t 2)), (some (10, false))⟩,
      ⟨(some 12), (.load 1 false (.t 11)), (some (10, false))⟩,
      ⟨(some 13), (.faddr 0 (.t 3)), (some (10, false))⟩,
      ⟨(some 14), (.load 1 false (.t 13)), (some (10, false))⟩,
      ⟨(some 15), (.bin .eql (.t 12) (.t 14)), (some (10, false))⟩,
      ⟨(some 16), (.mov (.t 15)), (some (10, false))⟩,
      ⟨(some 17), (.faddr 1 (.t 2)), (some (16, true))⟩,
      ⟨(some 18), (.load 1 false (.t 17)), (some (16, true))⟩,
      ⟨(some 19), (.faddr 1 (.t 3)), (some (16, true))⟩,
      ⟨(some 20), (.load 1 false (.t 19)), (some (16, true))⟩,
      ⟨(some 21), (.bin .lss (.t 18) (.t 20)), (some (16, true))⟩,
      ⟨(some 22), (.pick (.t 16) (.t 21) (.c (.l (.v (.bool false))))), (some (10, false))⟩,
      ⟨(some 23), (.pick (.t 10) (.c (.l (.v (.bool true)))) (.t 22)), none⟩,
      ⟨(some 4), (.mov (.t 23)), none⟩] [])
    .ret))
theorem c35_eq : Try.f35.body.bind (comp Try.prog Try.f35.ntmps) = some c35 := by kernel_rfl

/-- loop.example/collabdoc/laws.eqTableOp: params 2, results [4] -/
def c36 : ACode :=
  (.seq
   (.reg [
     ⟨(some 2), (.box (.t 0)), none⟩,
     ⟨(some 3), (.box (.t 1)), none⟩,
     ⟨(some 4), (.mov (.c (.l (.v (.bool false))))), none⟩] [])
   (.seq
    (.seq
     (.reg [
       ⟨(some 5), (.faddr 0 (.t 2)), none⟩,
       ⟨(some 6), (.load 2 true (.t 5)), none⟩,
       ⟨(some 7), (.faddr 0 (.t 3)), none⟩,
       ⟨(some 8), (.load 2 true (.t 7)), none⟩,
       ⟨(some 9), (.call (.c (.l (.clos 56 []))) [(.t 6), (.t 8)]), none⟩,
       ⟨(some 10), (.notb (.t 9)), none⟩] [])
     (.cond (.t 10)
      (.seq
       (.reg [
         ⟨(some 4), (.mov (.c (.l (.v (.bool false))))), none⟩] [])
       .ret)
      .skip))
    (.seq
     (.seq
      (.reg [
        ⟨(some 11), (.faddr 2 (.t 2)), none⟩,
        ⟨(some 12), (.load 1 false (.t 11)), none⟩,
        ⟨(some 13), (.faddr 2 (.t 3)), none⟩,
        ⟨(some 14), (.load 1 false (.t 13)), none⟩,
        ⟨(some 15), (.bin .neq (.t 12) (.t 14)), none⟩] [])
      (.cond (.t 15)
       (.seq
        (.reg [
          ⟨(some 4), (.mov (.c (.l (.v (.bool false))))), none⟩] [])
        .ret)
       .skip))
     (.seq
      (.seq
       (.reg [
         ⟨(some 16), (.faddr 3 (.t 2)), none⟩,
         ⟨(some 17), (.load 2 true (.t 16)), none⟩,
         ⟨(some 18), (.faddr 3 (.t 3)), none⟩,
         ⟨(some 19), (.load 2 true (.t 18)), none⟩,
         ⟨(some 20), (.call (.c (.l (.clos 56 []))) [(.t 17), (.t 19)]), none⟩,
         ⟨(some 21), (.notb (.t 20)), none⟩] [])
       (.cond (.t 21)
        (.seq
         (.reg [
           ⟨(some 4), (.mov (.c (.l (.v (.bool false))))), none⟩] [])
         .ret)
        .skip))
      (.seq
       (.seq
        (.reg [
          ⟨(some 22), (.faddr 5 (.t 2)), none⟩,
          ⟨(some 23), (.load 2 true (.t 22)), none⟩,
          ⟨(some 24), (.faddr 5 (.t 3)), none⟩,
          ⟨(some 25), (.load 2 true (.t 24)), none⟩,
          ⟨(some 26), (.call (.c (.l (.clos 56 []))) [(.t 23), (.t 25)]), none⟩,
          ⟨(some 27), (.notb (.t 26)), none⟩] [])
        (.cond (.t 27)
         (.seq
          (.reg [
            ⟨(some 4), (.mov (.c (.l (.v (.bool false))))), none⟩] [])
          .ret)
         .skip))
       (.seq
        (.seq
         (.reg [
           ⟨(some 28), (.faddr 7 (.t 2)), none⟩,
           ⟨(some 29), (.load 1 false (.t 28)), none⟩,
           ⟨(some 30), (.faddr 7 (.t 3)), none⟩,
           ⟨(some 31), (.load 1 false (.t 30)), none⟩,
           ⟨(some 32), (.bin .neq (.t 29) (.t 31)), none⟩] [])
         (.cond (.t 32)
          (.seq
           (.reg [
             ⟨(some 4), (.mov (.c (.l (.v (.bool false))))), none⟩] [])
           .ret)
          .skip))
        (.seq
         (.reg [
           ⟨(some 4), (.mov (.c (.l (.v (.bool true))))), none⟩] [])
         .ret)))))))
theorem c36_eq : Try.f36.body.bind (comp Try.prog Try.f36.ntmps) = some c36 := by kernel_rfl

/-- loop.example/collabdoc/spec.stampLess: params 2, results [4] -/
def c43 : ACode :=
  (.seq
   (.reg [
     ⟨(some 2), (.box (.t 0)), none⟩,
     ⟨(some 3), (.box (.t 1)), none⟩,
     ⟨(some 4), (.mov (.c (.l (.v (.bool false))))), none⟩] [])
   (.seq
    (.reg [
      ⟨(some 5), (.faddr 0 (.t 2)), none⟩,
      ⟨(some 6), (.load 1 false (.t 5)), none⟩,
      ⟨(some 7), (.faddr 0 (.t 3)), none⟩,
      ⟨(some 8), (.load 1 false (.t 7)), none⟩,
      ⟨(some 9), (.bin .lss (.t 6) (.t 8)), none⟩,
      ⟨(some 10), (.mov (.t 9)), none⟩,
      ⟨(some 11), (.faddr 0 (.t 2)), (some (10, false))⟩,
      ⟨(some 12), (.load 1 false (.t 11)), (some (10, false))⟩,
      ⟨(some 13), (.faddr 0 (.t 3)), (some (10, false))⟩,
      ⟨(some 14), (.load 1 false (.t 13)), (some (10, false))⟩,
      ⟨(some 15), (.bin .eql (.t 12) (.t 14)), (some (10, false))⟩,
      ⟨(some 16), (.mov (.t 15)), (some (10, false))⟩,
      ⟨(some 17), (.faddr 1 (.t 2)), (some (16, true))⟩,
      ⟨(some 18), (.load 1 false (.t 17)), (some (16, true))⟩,
      ⟨(some 19), (.faddr 1 (.t 3)), (some (16, true))⟩,
      ⟨(some 20), (.load 1 false (.t 19)), (some (16, true))⟩,
      ⟨(some 21), (.bin .lss (.t 18) (.t 20)), (some (16, true))⟩,
      ⟨(some 22), (.pick (.t 16) (.t 21) (.c (.l (.v (.bool false))))), (some (10, false))⟩,
      ⟨(some 23), (.pick (.t 10) (.c (.l (.v (.bool true)))) (.t 22)), none⟩,
      ⟨(some 4), (.mov (.t 23)), none⟩] [])
    .ret))
theorem c43_eq : Try.f43.body.bind (comp Try.prog Try.f43.ntmps) = some c43 := by kernel_rfl

/-- loop.example/collabdoc/spec.validTableOp: params 1, results [2] -/
def c44 : ACode :=
  (.seq
   (.reg [
     ⟨(some 1), (.box (.t 0)), none⟩,
     ⟨(some 2), (.mov (.c (.l (.v (.bool false))))), none⟩] [])
   (.seq
    (.seq
     (.reg [
       ⟨(some 5), (.faddr 0 (.t 1)), none⟩,
       ⟨(some 6), (.load 2 true (.t 5)), none⟩,
       ⟨(some 7), (.call (.c (.l (.clos 62 []))) [(.t 6)]), none⟩,
       ⟨(some 8), (.notb (.t 7)), none⟩] [])
     (.cond (.t 8)
      (.seq
       (.reg [
         ⟨(some 2), (.mov (.c (.l (.v (.bool false))))), none⟩] [])
       .ret)
      .skip))
    (.seq
     (.reg [
       ⟨(some 9), (.faddr 3 (.t 1)), none⟩,
       ⟨(some 10), (.load 2 true (.t 9)), none⟩,
       ⟨(some 11), (.build [(.v (.int .i64 0)), (.v (.int .i64 0))] []), none⟩,
       ⟨(some 12), (.eqs false [(.i .i64), (.i .i64)] (.t 10) (.t 11)), none⟩,
       ⟨(some 13), (.mov (.t 12)), none⟩,
       ⟨(some 14), (.faddr 3 (.t 1)), (some (13, false))⟩,
       ⟨(some 15), (.load 2 true (.t 14)), (some (13, false))⟩,
       ⟨(some 16), (.call (.c (.l (.clos 62 []))) [(.t 15)]), (some (13, false))⟩,
       ⟨(some 17), (.mov (.t 16)), (some (13, false))⟩,
       ⟨(some 18), (.faddr 3 (.t 1)), (some (17, true))⟩,
       ⟨(some 19), (.load 2 true (.t 18)), (some (17, true))⟩,
       ⟨(some 20), (.faddr 0 (.t 1)), (some (17, true))⟩,
       ⟨(some 21), (.load 2 true (.t 20)), (some (17, true))⟩,
       ⟨(some 22), (.call (.c (.l (.clos 43 []))) [(.t 19), (.t 21)]), (some (17, true))⟩,
       ⟨(some 23), (.pick (.t 17) (.t 22) (.c (.l (.v (.bool false))))), (some (13, false))⟩,
       ⟨(some 24), (.pick (.t 13) (.c (.l (.v (.bool true)))) (.t 23)), none⟩,
       ⟨(some 3), (.mov (.t 24)), none⟩] [])
     (.seq
      (.reg [
        ⟨(some 25), (.faddr 5 (.t 1)), none⟩,
        ⟨(some 26), (.load 2 true (.t 25)), none⟩,
        ⟨(some 27), (.build [(.v (.int .i64 0)), (.v (.int .i64 0))] []), none⟩,
        ⟨(some 28), (.eqs false [(.i .i64), (.i .i64)] (.t 26) (.t 27)), none⟩,
        ⟨(some 29), (.mov (.t 28)), none⟩,
        ⟨(some 30), (.faddr 5 (.t 1)), (some (29, false))⟩,
        ⟨(some 31), (.load 2 true (.t 30)), (some (29, false))⟩,
        ⟨(some 32), (.call (.c (.l (.clos 62 []))) [(.t 31)]), (some (29, false))⟩,
        ⟨(some 33), (.mov (.t 32)), (some (29, false))⟩,
        ⟨(some 34), (.faddr 5 (.t 1)), (some (33, true))⟩,
        ⟨(some 35), (.load 2 true (.t 34)), (some (33, true))⟩,
        ⟨(some 36), (.faddr 0 (.t 1)), (some (33, true))⟩,
        ⟨(some 37), (.load 2 true (.t 36)), (some (33, true))⟩,
        ⟨(some 38), (.call (.c (.l (.clos 43 []))) [(.t 35), (.t 37)]), (some (33, true))⟩,
        ⟨(some 39), (.pick (.t 33) (.t 38) (.c (.l (.v (.bool false))))), (some (29, false))⟩,
        ⟨(some 40), (.pick (.t 29) (.c (.l (.v (.bool true)))) (.t 39)), none⟩,
        ⟨(some 4), (.mov (.t 40)), none⟩] [])
      (.seq
       (.seq
        (.reg [
          ⟨(some 41), (.faddr 2 (.t 1)), none⟩,
          ⟨(some 42), (.load 1 false (.t 41)), none⟩] [])
        (.block 0
         (.seq
          (.seq
           (.reg [
             ⟨(some 44), (.bin .eql (.t 42) (.c (.l (.v (.int .i64 1))))), none⟩,
             ⟨(some 43), (.mov (.t 44)), none⟩] [])
           (.cond (.t 43)
            .skip
            (.reg [
              ⟨(some 45), (.bin .eql (.t 42) (.c (.l (.v (.int .i64 2))))), none⟩,
              ⟨(some 43), (.mov (.t 45)), none⟩] [])))
          (.cond (.t 43)
           (.seq
            (.reg [
              ⟨(some 46), (.mov (.t 3)), none⟩,
              ⟨(some 47), (.mov (.t 46)), none⟩,
              ⟨(some 48), (.faddr 5 (.t 1)), (some (47, true))⟩,
              ⟨(some 49), (.load 2 true (.t 48)), (some (47, true))⟩,
              ⟨(some 50), (.build [(.v (.int .i64 0)), (.v (.int .i64 0))] []), (some (47, true))⟩,
              ⟨(some 51), (.eqs false [(.i .i64), (.i .i64)] (.t 49) (.t 50)), (some (47, true))⟩,
              ⟨(some 52), (.pick (.t 47) (.t 51) (.c (.l (.v (.bool false))))), none⟩,
              ⟨(some 53), (.mov (.t 52)), none⟩,
              ⟨(some 54), (.faddr 7 (.t 1)), (some (53, true))⟩,
              ⟨(some 55), (.load 1 false (.t 54)), (some (53, true))⟩,
              ⟨(some 56), (.bin .eql (.t 55) (.c (.l (.v (.string ⟨#[]⟩))))), (some (53, true))⟩,
              ⟨(some 57), (.pick (.t 53) (.t 56) (.c (.l (.v (.bool false))))), none⟩,
              ⟨(some 2), (.mov (.t 57)), none⟩] [])
            .ret)
           (.seq
            (.reg [
              ⟨(some 59), (.bin .eql (.t 42) (.c (.l (.v (.int .i64 3))))), none⟩,
              ⟨(some 58), (.mov (.t 59)), none⟩] [])
            (.cond (.t 58)
             (.seq
              (.reg [
                ⟨(some 60), (.mov (.t 3)), none⟩,
                ⟨(some 61), (.mov (.t 60)), none⟩,
                ⟨(some 62), (.faddr 3 (.t 1)), (some (61, true))⟩,
                ⟨(some 63), (.load 2 true (.t 62)), (some (61, true))⟩,
                ⟨(some 64), (.call (.c (.l (.clos 63 []))) [(.t 63)]), (some (61, true))⟩,
                ⟨(some 65), (.notb (.t 64)), (some (61, true))⟩,
                ⟨(some 66), (.pick (.t 61) (.t 65) (.c (.l (.v (.bool false))))), none⟩,
                ⟨(some 67), (.mov (.t 66)), none⟩,
                ⟨(some 68), (.faddr 5 (.t 1)), (some (67, true))⟩,
                ⟨(some 69), (.load 2 true (.t 68)), (some (67, true))⟩,
                ⟨(some 70), (.build [(.v (.int .i64 0)), (.v (.int .i64 0))] []), (some (67, true))⟩,
                ⟨(some 71), (.eqs false [(.i .i64), (.i .i64)] (.t 69) (.t 70)), (some (67, true))⟩,
                ⟨(some 72), (.pick (.t 67) (.t 71) (.c (.l (.v (.bool false))))), none⟩,
                ⟨(some 73), (.mov (.t 72)), none⟩,
                ⟨(some 74), (.faddr 7 (.t 1)), (some (73, true))⟩,
                ⟨(some 75), (.load 1 false (.t 74)), (some (73, true))⟩,
                ⟨(some 76), (.bin .eql (.t 75) (.c (.l (.v (.string ⟨#[]⟩))))), (some (73, true))⟩,
                ⟨(some 77), (.pick (.t 73) (.t 76) (.c (.l (.v (.bool false))))), none⟩,
                ⟨(some 2), (.mov (.t 77)), none⟩] [])
              .ret)
             (.seq
              (.reg [
                ⟨(some 79), (.bin .eql (.t 42) (.c (.l (.v (.int .i64 4))))), none⟩,
                ⟨(some 78), (.mov (.t 79)), none⟩] [])
              (.cond (.t 78)
               (.seq
                (.reg [
                  ⟨(some 80), (.mov (.t 3)), none⟩,
                  ⟨(some 81), (.mov (.t 80)), none⟩,
                  ⟨(some 82), (.mov (.t 4)), (some (81, true))⟩,
                  ⟨(some 83), (.pick (.t 81) (.t 82) (.c (.l (.v (.bool false))))), none⟩,
                  ⟨(some 84), (.mov (.t 83)), none⟩,
                  ⟨(some 85), (.faddr 3 (.t 1)), (some (84, true))⟩,
                  ⟨(some 86), (.load 2 true (.t 85)), (some (84, true))⟩,
                  ⟨(some 87), (.call (.c (.l (.clos 63 []))) [(.t 86)]), (some (84, true))⟩,
                  ⟨(some 88), (.notb (.t 87)), (some (84, true))⟩,
                  ⟨(some 89), (.pick (.t 84) (.t 88) (.c (.l (.v (.bool false))))), none⟩,
                  ⟨(some 90), (.mov (.t 89)), none⟩,
                  ⟨(some 91), (.faddr 5 (.t 1)), (some (90, true))⟩,
                  ⟨(some 92), (.load 2 true (.t 91)), (some (90, true))⟩,
                  ⟨(some 93), (.call (.c (.l (.clos 63 []))) [(.t 92)]), (some (90, true))⟩,
                  ⟨(some 94), (.notb (.t 93)), (some (90, true))⟩,
                  ⟨(some 95), (.pick (.t 90) (.t 94) (.c (.l (.v (.bool false))))), none⟩,
                  ⟨(some 96), (.mov (.t 95)), none⟩,
                  ⟨(some 97), (.faddr 7 (.t 1)), (some (96, true))⟩,
                  ⟨(some 98), (.load 1 false (.t 97)), (some (96, true))⟩,
                  ⟨(some 99), (.bin .eql (.t 98) (.c (.l (.v (.string ⟨#[]⟩))))), (some (96, true))⟩,
                  ⟨(some 100), (.mov (.t 99)), (some (96, true))⟩,
                  ⟨(some 101), (.faddr 7 (.t 1)), (some (100, false))⟩,
                  ⟨(some 102), (.load 1 false (.t 101)), (some (100, false))⟩,
                  ⟨(some 103), (.call (.c (.l (.clos 64 []))) [(.t 102)]), (some (100, false))⟩,
                  ⟨(some 104), (.pick (.t 100) (.c (.l (.v (.bool true)))) (.t 103)), (some (96, true))⟩,
                  ⟨(some 105), (.pick (.t 96) (.t 104) (.c (.l (.v (.bool false))))), none⟩,
                  ⟨(some 2), (.mov (.t 105)), none⟩] [])
                .ret)
               .skip))))))))
       (.seq
        (.reg [
          ⟨(some 2), (.mov (.c (.l (.v (.bool false))))), none⟩] [])
        .ret))))))
theorem c44_eq : Try.f44.body.bind (comp Try.prog Try.f44.ntmps) = some c44 := by kernel_rfl

/-- loop.example/collabdoc/laws.toStamp: params 1, results [CELL 2] -/
def c47 : ACode :=
  (.seq
   (.reg [
     ⟨(some 1), (.box (.t 0)), none⟩,
     ⟨(some 2), (.alloc [(.v (.int .i64 0)), (.v (.int .i64 0))]), none⟩] [])
   (.seq
    (.reg [
      ⟨(some 3), (.alloc [(.v (.int .i64 0)), (.v (.int .i64 0))]), none⟩] [])
    (.seq
     (.reg [
       ⟨(some 4), (.faddr 0 (.t 1)), none⟩,
       ⟨(some 5), (.load 1 false (.t 4)), none⟩,
       ⟨(some 6), (.faddr 0 (.t 3)), none⟩,
       ⟨none, (.store 1 (.t 6) (.t 5)), none⟩] [])
     (.seq
      (.reg [
        ⟨(some 7), (.faddr 1 (.t 1)), none⟩,
        ⟨(some 8), (.load 1 false (.t 7)), none⟩,
        ⟨(some 9), (.faddr 1 (.t 3)), none⟩,
        ⟨none, (.store 1 (.t 9) (.t 8)), none⟩] [])
      (.seq
       (.reg [
         ⟨(some 10), (.load 2 true (.t 3)), none⟩,
         ⟨none, (.store 2 (.t 2) (.t 10)), none⟩] [])
       .ret)))))
theorem c47_eq : Try.f47.body.bind (comp Try.prog Try.f47.ntmps) = some c47 := by kernel_rfl

/-- loop.example/collabdoc/impl.ValidStamp: params 1, results [2] -/
def c54 : ACode :=
  (.seq
   (.reg [
     ⟨(some 1), (.box (.t 0)), none⟩,
     ⟨(some 2), (.mov (.c (.l (.v (.bool false))))), none⟩] [])
   (.seq
    (.reg [
      ⟨(some 3), (.faddr 0 (.t 1)), none⟩,
      ⟨(some 4), (.load 1 false (.t 3)), none⟩,
      ⟨(some 5), (.bin .geq (.t 4) (.c (.l (.v (.int .i64 1))))), none⟩,
      ⟨(some 6), (.mov (.t 5)), none⟩,
      ⟨(some 7), (.faddr 0 (.t 1)), (some (6, true))⟩,
      ⟨(some 8), (.load 1 false (.t 7)), (some (6, true))⟩,
      ⟨(some 9), (.bin .leq (.t 8) (.c (.l (.v (.int .i64 99))))), (some (6, true))⟩,
      ⟨(some 10), (.pick (.t 6) (.t 9) (.c (.l (.v (.bool false))))), none⟩,
      ⟨(some 11), (.mov (.t 10)), none⟩,
      ⟨(some 12), (.faddr 1 (.t 1)), (some (11, true))⟩,
      ⟨(some 13), (.load 1 false (.t 12)), (some (11, true))⟩,
      ⟨(some 14), (.call (.c (.l (.clos 68 []))) [(.t 13)]), (some (11, true))⟩,
      ⟨(some 15), (.pick (.t 11) (.t 14) (.c (.l (.v (.bool false))))), none⟩,
      ⟨(some 2), (.mov (.t 15)), none⟩] [])
    .ret))
theorem c54_eq : Try.f54.body.bind (comp Try.prog Try.f54.ntmps) = some c54 := by kernel_rfl

/-- loop.example/collabdoc/impl.isWord: params 1, results [2] -/
def c55 : ACode :=
  (.seq
   (.reg [
     ⟨(some 2), (.mov (.c (.l (.v (.bool false))))), none⟩] [])
   (.seq
    (.seq
     (.reg [
       ⟨(some 3), (.mov (.c (.l (.v (.int .i64 0))))), none⟩] [])
     (.block 0
      (.loop
       (.seq
        (.seq
         (.reg [
           ⟨(some 4), (.mov (.t 3)), none⟩,
           ⟨(some 5), (.mov (.t 0)), none⟩,
           ⟨(some 6), (.slen (.t 5)), none⟩,
           ⟨(some 7), (.bin .lss (.t 4) (.t 6)), none⟩] [])
         (.cond (.t 7)
          .skip
          (.exit 0)))
        (.seq
         (.block 1
          (.seq
           (.reg [
             ⟨(some 10), (.mov (.t 0)), none⟩,
             ⟨(some 11), (.mov (.t 3)), none⟩,
             ⟨(some 12), (.istr (.t 10) (.t 11)), none⟩,
             ⟨(some 13), (.bin .lss (.t 12) (.c (.l (.v (.int .u8 97))))), none⟩,
             ⟨(some 14), (.mov (.t 13)), none⟩,
             ⟨(some 15), (.mov (.t 0)), (some (14, false))⟩,
             ⟨(some 16), (.mov (.t 3)), (some (14, false))⟩,
             ⟨(some 17), (.istr (.t 15) (.t 16)), (some (14, false))⟩,
             ⟨(some 18), (.bin .gtr (.t 17) (.c (.l (.v (.int .u8 122))))), (some (14, false))⟩,
             ⟨(some 19), (.pick (.t 14) (.c (.l (.v (.bool true)))) (.t 18)), none⟩] [])
           (.cond (.t 19)
            (.seq
             (.reg [
               ⟨(some 2), (.mov (.c (.l (.v (.bool false))))), none⟩] [])
             .ret)
            .skip)))
         (.reg [
           ⟨(some 8), (.mov (.t 3)), none⟩,
           ⟨(some 9), (.bin .add (.t 8) (.c (.l (.v (.int .i64 1))))), none⟩,
           ⟨(some 3), (.mov (.t 9)), none⟩] []))))))
    (.seq
     (.reg [
       ⟨(some 20), (.mov (.t 0)), none⟩,
       ⟨(some 21), (.slen (.t 20)), none⟩,
       ⟨(some 22), (.bin .geq (.t 21) (.c (.l (.v (.int .i64 1))))), none⟩,
       ⟨(some 23), (.mov (.t 22)), none⟩,
       ⟨(some 24), (.mov (.t 0)), (some (23, true))⟩,
       ⟨(some 25), (.slen (.t 24)), (some (23, true))⟩,
       ⟨(some 26), (.bin .leq (.t 25) (.c (.l (.v (.int .i64 8))))), (some (23, true))⟩,
       ⟨(some 27), (.pick (.t 23) (.t 26) (.c (.l (.v (.bool false))))), none⟩,
       ⟨(some 2), (.mov (.t 27)), none⟩] [])
     .ret)))
theorem c55_eq : Try.f55.body.bind (comp Try.prog Try.f55.ntmps) = some c55 := by kernel_rfl

/-- loop.example/collabdoc/laws.eqStamp: params 2, results [4] -/
def c56 : ACode :=
  (.seq
   (.reg [
     ⟨(some 2), (.box (.t 0)), none⟩,
     ⟨(some 3), (.box (.t 1)), none⟩,
     ⟨(some 4), (.mov (.c (.l (.v (.bool false))))), none⟩] [])
   (.seq
    (.seq
     (.reg [
       ⟨(some 5), (.faddr 0 (.t 2)), none⟩,
       ⟨(some 6), (.load 1 false (.t 5)), none⟩,
       ⟨(some 7), (.faddr 0 (.t 3)), none⟩,
       ⟨(some 8), (.load 1 false (.t 7)), none⟩,
       ⟨(some 9), (.bin .neq (.t 6) (.t 8)), none⟩] [])
     (.cond (.t 9)
      (.seq
       (.reg [
         ⟨(some 4), (.mov (.c (.l (.v (.bool false))))), none⟩] [])
       .ret)
      .skip))
    (.seq
     (.seq
      (.reg [
        ⟨(some 10), (.faddr 1 (.t 2)), none⟩,
        ⟨(some 11), (.load 1 false (.t 10)), none⟩,
        ⟨(some 12), (.faddr 1 (.t 3)), none⟩,
        ⟨(some 13), (.load 1 false (.t 12)), none⟩,
        ⟨(some 14), (.bin .neq (.t 11) (.t 13)), none⟩] [])
      (.cond (.t 14)
       (.seq
        (.reg [
          ⟨(some 4), (.mov (.c (.l (.v (.bool false))))), none⟩] [])
        .ret)
       .skip))
     (.seq
      (.reg [
        ⟨(some 4), (.mov (.c (.l (.v (.bool true))))), none⟩] [])
      .ret))))
theorem c56_eq : Try.f56.body.bind (comp Try.prog Try.f56.ntmps) = some c56 := by kernel_rfl

/-- loop.example/collabdoc/spec.validStamp: params 1, results [2] -/
def c62 : ACode :=
  (.seq
   (.reg [
     ⟨(some 1), (.box (.t 0)), none⟩,
     ⟨(some 2), (.mov (.c (.l (.v (.bool false))))), none⟩] [])
   (.seq
    (.reg [
      ⟨(some 3), (.faddr 0 (.t 1)), none⟩,
      ⟨(some 4), (.load 1 false (.t 3)), none⟩,
      ⟨(some 5), (.call (.c (.l (.clos 71 []))) [(.t 4), (.c (.l (.v (.int .i64 1)))), (.c (.l (.v (.int .i64 99))))]), none⟩,
      ⟨(some 6), (.mov (.t 5)), none⟩,
      ⟨(some 7), (.faddr 1 (.t 1)), (some (6, true))⟩,
      ⟨(some 8), (.load 1 false (.t 7)), (some (6, true))⟩,
      ⟨(some 9), (.call (.c (.l (.clos 71 []))) [(.t 8), (.c (.l (.v (.int .i64 0)))), (.c (.l (.v (.int .i64 2))))]), (some (6, true))⟩,
      ⟨(some 10), (.pick (.t 6) (.t 9) (.c (.l (.v (.bool false))))), none⟩,
      ⟨(some 2), (.mov (.t 10)), none⟩] [])
    .ret))
theorem c62_eq : Try.f62.body.bind (comp Try.prog Try.f62.ntmps) = some c62 := by kernel_rfl

/-- loop.example/collabdoc/spec.isZero: params 1, results [2] -/
def c63 : ACode :=
  (.seq
   (.reg [
     ⟨(some 1), (.box (.t 0)), none⟩,
     ⟨(some 2), (.mov (.c (.l (.v (.bool false))))), none⟩] [])
   (.seq
    (.reg [
      ⟨(some 3), (.load 2 true (.t 1)), none⟩,
      ⟨(some 4), (.build [(.v (.int .i64 0)), (.v (.int .i64 0))] []), none⟩,
      ⟨(some 5), (.eqs false [(.i .i64), (.i .i64)] (.t 3) (.t 4)), none⟩,
      ⟨(some 2), (.mov (.t 5)), none⟩] [])
    .ret))
theorem c63_eq : Try.f63.body.bind (comp Try.prog Try.f63.ntmps) = some c63 := by kernel_rfl

/-- loop.example/collabdoc/spec.validWord: params 1, results [2] -/
def c64 : ACode :=
  (.seq
   (.reg [
     ⟨(some 2), (.mov (.c (.l (.v (.bool false))))), none⟩] [])
   (.seq
    (.seq
     (.reg [
       ⟨(some 3), (.mov (.c (.l (.v (.int .i64 0))))), none⟩] [])
     (.block 0
      (.loop
       (.seq
        (.seq
         (.reg [
           ⟨(some 4), (.mov (.t 3)), none⟩,
           ⟨(some 5), (.mov (.t 0)), none⟩,
           ⟨(some 6), (.slen (.t 5)), none⟩,
           ⟨(some 7), (.bin .lss (.t 4) (.t 6)), none⟩] [])
         (.cond (.t 7)
          .skip
          (.exit 0)))
        (.seq
         (.block 1
          (.seq
           (.reg [
             ⟨(some 10), (.mov (.t 0)), none⟩,
             ⟨(some 11), (.mov (.t 3)), none⟩,
             ⟨(some 12), (.istr (.t 10) (.t 11)), none⟩,
             ⟨(some 13), (.bin .lss (.t 12) (.c (.l (.v (.int .u8 97))))), none⟩,
             ⟨(some 14), (.mov (.t 13)), none⟩,
             ⟨(some 15), (.mov (.t 0)), (some (14, false))⟩,
             ⟨(some 16), (.mov (.t 3)), (some (14, false))⟩,
             ⟨(some 17), (.istr (.t 15) (.t 16)), (some (14, false))⟩,
             ⟨(some 18), (.bin .gtr (.t 17) (.c (.l (.v (.int .u8 122))))), (some (14, false))⟩,
             ⟨(some 19), (.pick (.t 14) (.c (.l (.v (.bool true)))) (.t 18)), none⟩] [])
           (.cond (.t 19)
            (.seq
             (.reg [
               ⟨(some 2), (.mov (.c (.l (.v (.bool false))))), none⟩] [])
             .ret)
            .skip)))
         (.reg [
           ⟨(some 8), (.mov (.t 3)), none⟩,
           ⟨(some 9), (.bin .add (.t 8) (.c (.l (.v (.int .i64 1))))), none⟩,
           ⟨(some 3), (.mov (.t 9)), none⟩] []))))))
    (.seq
     (.reg [
       ⟨(some 20), (.mov (.t 0)), none⟩,
       ⟨(some 21), (.slen (.t 20)), none⟩,
       ⟨(some 22), (.call (.c (.l (.clos 71 []))) [(.t 21), (.c (.l (.v (.int .i64 1)))), (.c (.l (.v (.int .i64 8))))]), none⟩,
       ⟨(some 2), (.mov (.t 22)), none⟩] [])
     .ret)))
theorem c64_eq : Try.f64.body.bind (comp Try.prog Try.f64.ntmps) = some c64 := by kernel_rfl

/-- loop.example/collabdoc/impl.isAuthor: params 1, results [2] -/
def c68 : ACode :=
  (.seq
   (.reg [
     ⟨(some 2), (.mov (.c (.l (.v (.bool false))))), none⟩] [])
   (.seq
    (.reg [
      ⟨(some 3), (.mov (.t 0)), none⟩,
      ⟨(some 4), (.bin .geq (.t 3) (.c (.l (.v (.int .i64 0))))), none⟩,
      ⟨(some 5), (.mov (.t 4)), none⟩,
      ⟨(some 6), (.mov (.t 0)), (some (5, true))⟩,
      ⟨(some 7), (.bin .lss (.t 6) (.c (.l (.v (.int .i64 3))))), (some (5, true))⟩,
      ⟨(some 8), (.pick (.t 5) (.t 7) (.c (.l (.v (.bool false))))), none⟩,
      ⟨(some 2), (.mov (.t 8)), none⟩] [])
    .ret))
theorem c68_eq : Try.f68.body.bind (comp Try.prog Try.f68.ntmps) = some c68 := by kernel_rfl

/-- loop.example/collabdoc/spec.inRange: params 3, results [6] -/
def c71 : ACode :=
  (.seq
   (.reg [
     ⟨(some 6), (.mov (.c (.l (.v (.bool false))))), none⟩] [])
   (.seq
    (.reg [
      ⟨(some 7), (.mov (.t 0)), none⟩,
      ⟨(some 8), (.mov (.t 1)), none⟩,
      ⟨(some 9), (.bin .geq (.t 7) (.t 8)), none⟩,
      ⟨(some 10), (.mov (.t 9)), none⟩,
      ⟨(some 11), (.mov (.t 0)), (some (10, true))⟩,
      ⟨(some 12), (.mov (.t 2)), (some (10, true))⟩,
      ⟨(some 13), (.bin .leq (.t 11) (.t 12)), (some (10, true))⟩,
      ⟨(some 14), (.pick (.t 10) (.t 13) (.c (.l (.v (.bool false))))), none⟩,
      ⟨(some 6), (.mov (.t 14)), none⟩] [])
    .ret))
theorem c71_eq : Try.f71.body.bind (comp Try.prog Try.f71.ntmps) = some c71 := by kernel_rfl

end Go.Proofs
