import Derived.Test.YtfbjnipamfbgmaaAbRun
import Derived.Test.YtfbjnipamfbgmaaProg
import Derived.KernelRfl
set_option linter.unusedSimpArgs false
set_option linter.unusedVariables false
namespace Go.Proofs
open Go Go.Ab
/-- loop.example/collabdoc/laws.FnExactReplicaMissing: params 2, results [4] -/
def c12 : ACode :=
 (.seq
 (.reg [
 ⟨(some 2), (.box (.t 0)), none⟩,
 ⟨(some 4), (.mov (.c (.l (.v (.bool false))))), none⟩] [])
 (.seq
 (.seq
 (.reg [
 ⟨(some 14), (.mov (.t 1)), none⟩,
 ⟨(some 15), (.len (.t 14)), none⟩,
 ⟨(some 16), (.bin .gtr (.t 15) (.c (.l (.v (.int .i64 1048576))))), none⟩] [])
 (.cond (.t 16)
 (.seq
 (.reg [
 ⟨(some 4), (.mov (.c (.l (.v (.bool true))))), none⟩] [])
 .ret)
 .skip))
 (.seq
 (.reg [
 ⟨(some 5), (.mov (.c (.l (.v (.int .i64 1048576))))), none⟩] [])
 (.seq
 (.reg [
 ⟨(some 17), (.load 3 true (.t 2)), none⟩,
 ⟨(some 18), (.mov (.t 5)), none⟩,
 ⟨(some 19), (.call (.c (.l (.clos 23 []))) [(.t 17), (.t 18)]), none⟩,
 ⟨(some 5), (.mov (.t 19)), none⟩] [])
 (.seq
 (.seq
 (.reg [
 ⟨(some 20), (.mov (.t 5)), none⟩,
 ⟨(some 21), (.bin .lss (.t 20) (.c (.l (.v (.int .i64 0))))), none⟩] [])
 (.cond (.t 21)
 (.seq
 (.reg [
 ⟨(some 4), (.mov (.c (.l (.v (.bool true))))), none⟩] [])
 .ret)
 .skip))
 (.seq
 (.reg [
 ⟨(some 22), (.load 3 true (.t 2)), none⟩,
 ⟨(some 23), (.call (.c (.l (.clos 25 []))) [(.t 22)]), none⟩,
 ⟨(some 24), (.mov (.t 1)), none⟩,
 ⟨(some 25), (.call (.c (.l (.clos 51 []))) [(.t 24)]), none⟩,
 ⟨(some 26), (.call (.c (.l (.clos 50 []))) [(.t 23), (.t 25)]), none⟩,
 ⟨(some 6), (.mov (.t 26)), none⟩] [])
 (.seq
 (.reg [
 ⟨(some 27), (.load 3 true (.t 2)), none⟩,
 ⟨(some 28), (.call (.c (.l (.clos 25 []))) [(.t 27)]), none⟩,
 ⟨(some 7), (.alloc [(.v (.int .i64 0)), .emp, .emp]), none⟩,
 ⟨none, (.store 3 (.t 7) (.t 28)), none⟩] [])
 (.seq
 (.reg [
 ⟨(some 29), (.mov (.t 1)), none⟩,
 ⟨(some 30), (.call (.c (.l (.clos 51 []))) [(.t 29)]), none⟩,
 ⟨(some 8), (.mov (.t 30)), none⟩] [])
 (.seq
 (.reg [
 ⟨(some 31), (.load 3 true (.t 7)), none⟩,
 ⟨(some 32), (.mov (.t 8)), none⟩,
 ⟨(some 33), (.call (.c (.l (.clos 52 []))) [(.t 31), (.t 32)]), none⟩,
 ⟨(some 9), (.mov (.t 33)), none⟩] [])
 (.seq
 (.seq
 (.reg [
 ⟨(some 34), (.mov (.t 9)), none⟩,
 ⟨(some 35), (.mov (.t 6)), none⟩,
 ⟨(some 36), (.call (.c (.l (.clos 53 []))) [(.t 34), (.t 35)]), none⟩,
 ⟨(some 37), (.notb (.t 36)), none⟩] [])
 (.cond (.t 37)
 (.seq
 (.reg [
 ⟨(some 4), (.mov (.c (.l (.v (.bool false))))), none⟩] [])
 .ret)
 .skip))
 (.seq
 (.seq
 (.reg [
 ⟨(some 38), (.load 3 true (.t 7)), none⟩,
 ⟨(some 39), (.load 3 true (.t 2)), none⟩,
 ⟨(some 40), (.call (.c (.l (.clos 25 []))) [(.t 39)]), none⟩,
 ⟨(some 41), (.call (.c (.l (.clos 27 []))) [(.t 38), (.t 40)]), none⟩,
 ⟨(some 42), (.notb (.t 41)), none⟩] [[], [], [0], [], []])
 (.cond (.t 42)
 (.seq
 (.reg [
 ⟨(some 4), (.mov (.c (.l (.v (.bool false))))), none⟩] [])
 .ret)
 .skip))
 (.seq
 (.seq
 (.reg [
 ⟨(some 43), (.mov (.t 8)), none⟩,
 ⟨(some 44), (.mov (.t 1)), none⟩,
 ⟨(some 45), (.call (.c (.l (.clos 51 []))) [(.t 44)]), none⟩,
 ⟨(some 46), (.call (.c (.l (.clos 54 []))) [(.t 43), (.t 45)]), none⟩,
 ⟨(some 47), (.notb (.t 46)), none⟩] [])
 (.cond (.t 47)
 (.seq
 (.reg [
 ⟨(some 4), (.mov (.c (.l (.v (.bool false))))), none⟩] [])
 .ret)
 .skip))
 (.seq
 (.reg [
 ⟨(some 10), (.mov (.c (.l (.v (.int .i64 1))))), none⟩] [])
 (.seq
 (.reg [
 ⟨(some 48), (.load 3 true (.t 7)), none⟩,
 ⟨(some 49), (.mov (.t 10)), none⟩,
 ⟨(some 50), (.call (.c (.l (.clos 55 []))) [(.t 48), (.t 49)]), none⟩,
 ⟨(some 10), (.mov (.t 50)), none⟩] [])
 (.seq
 (.reg [
 ⟨(some 51), (.mov (.t 8)), none⟩,
 ⟨(some 52), (.mov (.t 10)), none⟩,
 ⟨(some 53), (.call (.c (.l (.clos 56 []))) [(.t 51), (.t 52)]), none⟩,
 ⟨(some 10), (.mov (.t 53)), none⟩] [])
 (.seq
 (.seq
 (.reg [
 ⟨(some 54), (.mov (.t 10)), none⟩,
 ⟨(some 55), (.bin .lss (.t 54) (.c (.l (.v (.int .i64 0))))), none⟩,
 ⟨(some 56), (.mov (.t 55)), none⟩,
 ⟨(some 57), (.mov (.t 9)), (some (56, false))⟩,
 ⟨(some 58), (.mov (.t 6)), (some (56, false))⟩,
 ⟨(some 59), (.call (.c (.l (.clos 53 []))) [(.t 57), (.t 58)]), (some (56, false))⟩,
 ⟨(some 60), (.notb (.t 59)), (some (56, false))⟩,
 ⟨(some 61), (.pick (.t 56) (.c (.l (.v (.bool true)))) (.t 60)), none⟩] [])
 (.cond (.t 61)
 (.seq
 (.reg [
 ⟨(some 4), (.mov (.c (.l (.v (.bool false))))), none⟩] [])
 .ret)
 .skip))
 (.seq
 (.reg [
 ⟨(some 11), (.mov (.c (.l (.v (.int .i64 1))))), none⟩] [])
 (.seq
 (.reg [
 ⟨(some 62), (.mov (.t 9)), none⟩,
 ⟨(some 63), (.mov (.t 11)), none⟩,
 ⟨(some 64), (.call (.c (.l (.clos 57 []))) [(.t 62), (.t 63)]), none⟩,
 ⟨(some 11), (.mov (.t 64)), none⟩] [])
 (.seq
 (.reg [
 ⟨(some 12), (.mov (.c (.l (.v (.int .i64 1))))), none⟩] [])
 (.seq
 (.reg [
 ⟨(some 65), (.mov (.t 9)), none⟩,
 ⟨(some 66), (.mov (.t 12)), none⟩,
 ⟨(some 67), (.call (.c (.l (.clos 58 []))) [(.t 65), (.t 66)]), none⟩,
 ⟨(some 12), (.mov (.t 67)), none⟩] [])
 (.seq
 (.seq
 (.reg [
 ⟨(some 68), (.mov (.t 12)), none⟩,
 ⟨(some 69), (.bin .lss (.t 68) (.c (.l (.v (.int .i64 0))))), none⟩] [])
 (.cond (.t 69)
 (.seq
 (.reg [
 ⟨(some 4), (.mov (.c (.l (.v (.bool false))))), none⟩] [])
 .ret)
 .skip))
 (.seq
 (.seq
 (.reg [
 ⟨(some 70), (.mov (.t 12)), none⟩,
 ⟨(some 71), (.mov (.t 11)), none⟩,
 ⟨(some 72), (.bin .neq (.t 70) (.t 71)), none⟩] [])
 (.cond (.t 72)
 (.seq
 (.reg [
 ⟨(some 4), (.mov (.c (.l (.v (.bool false))))), none⟩] [])
 .ret)
 .skip))
 (.seq
 (.reg [
 ⟨(some 73), (.load 3 true (.t 2)), none⟩,
 ⟨(some 74), (.call (.c (.l (.clos 25 []))) [(.t 73)]), none⟩,
 ⟨(some 75), (.mov (.t 1)), none⟩,
 ⟨(some 76), (.call (.c (.l (.clos 51 []))) [(.t 75)]), none⟩,
 ⟨(some 77), (.call (.c (.l (.clos 52 []))) [(.t 74), (.t 76)]), none⟩,
 ⟨(some 13), (.mov (.t 77)), none⟩] [])
 (.seq
 (.seq
 (.reg [
 ⟨(some 78), (.mov (.t 13)), none⟩,
 ⟨(some 79), (.mov (.t 6)), none⟩,
 ⟨(some 80), (.call (.c (.l (.clos 53 []))) [(.t 78), (.t 79)]), none⟩,
 ⟨(some 81), (.notb (.t 80)), none⟩] [])
 (.cond (.t 81)
 (.seq
 (.reg [
 ⟨(some 4), (.mov (.c (.l (.v (.bool false))))), none⟩] [])
 .ret)
 .skip))
 (.seq
 (.reg [
 ⟨(some 12), (.mov (.c (.l (.v (.int .i64 1))))), none⟩] [])
 (.seq
 (.reg [
 ⟨(some 82), (.mov (.t 9)), none⟩,
 ⟨(some 83), (.mov (.t 12)), none⟩,
 ⟨(some 84), (.call (.c (.l (.clos 58 []))) [(.t 82), (.t 83)]), none⟩,
 ⟨(some 12), (.mov (.t 84)), none⟩] [])
 (.seq
 (.seq
 (.reg [
 ⟨(some 85), (.mov (.t 12)), none⟩,
 ⟨(some 86), (.bin .lss (.t 85) (.c (.l (.v (.int .i64 0))))), none⟩] [])
 (.cond (.t 86)
 (.seq
 (.reg [
 ⟨(some 4), (.mov (.c (.l (.v (.bool false))))), none⟩] [])
 .ret)
 .skip))
 (.seq
 (.seq
 (.reg [
 ⟨(some 87), (.mov (.t 12)), none⟩,
 ⟨(some 88), (.mov (.t 11)), none⟩,
 ⟨(some 89), (.bin .neq (.t 87) (.t 88)), none⟩] [])
 (.cond (.t 89)
 (.seq
 (.reg [
 ⟨(some 4), (.mov (.c (.l (.v (.bool false))))), none⟩] [])
 .ret)
 .skip))
 (.seq
 (.reg [
 ⟨(some 4), (.mov (.c (.l (.v (.bool true))))), none⟩] [])
 .ret)))))))))))))))))))))))))))))
theorem c12_eq : Try.f12.body.bind (comp Try.prog Try.f12.ntmps) = some c12 := by kernel_rfl

/-- loop.example/collabdoc/laws.szOpS: params 2, results [4] -/
def c13 : ACode :=
 (.seq
 (.reg [
 ⟨(some 4), (.mov (.c (.l (.v (.int .i64 0))))), none⟩] [])
 (.seq
 (.reg [
 ⟨(some 6), (.mov (.t 1)), none⟩,
 ⟨(some 7), (.mov (.t 0)), none⟩,
 ⟨(some 8), (.len (.t 7)), none⟩,
 ⟨(some 9), (.bin .sub (.t 6) (.t 8)), none⟩,
 ⟨(some 1), (.mov (.t 9)), none⟩] [])
 (.seq
 (.seq
 (.reg [
 ⟨(some 10), (.mov (.t 1)), none⟩,
 ⟨(some 11), (.bin .lss (.t 10) (.c (.l (.v (.int .i64 0))))), none⟩] [])
 (.cond (.t 11)
 (.seq
 (.reg [
 ⟨(some 4), (.mov (.c (.l (.v (.int .i64 (-1)))))), none⟩] [])
 .ret)
 .skip))
 (.seq
 (.seq
 (.reg [
 ⟨(some 5), (.mov (.c (.l (.v (.int .i64 0))))), none⟩] [])
 (.block 0
 (.loop
 (.seq
 (.seq
 (.reg [
 ⟨(some 12), (.mov (.t 5)), none⟩,
 ⟨(some 13), (.mov (.t 0)), none⟩,
 ⟨(some 14), (.len (.t 13)), none⟩,
 ⟨(some 15), (.bin .lss (.t 12) (.t 14)), none⟩] [])
 (.cond (.t 15)
 .skip
 (.exit 0)))
 (.seq
 (.block 1
 (.seq
 (.reg [
 ⟨(some 18), (.mov (.t 0)), none⟩,
 ⟨(some 19), (.mov (.t 5)), none⟩,
 ⟨(some 20), (.iaddr 12 (.t 18) (.t 19)), none⟩,
 ⟨(some 21), (.load 12 true (.t 20)), none⟩,
 ⟨(some 22), (.mov (.t 1)), none⟩,
 ⟨(some 23), (.call (.c (.l (.clos 59 []))) [(.t 21), (.t 22)]), none⟩,
 ⟨(some 1), (.mov (.t 23)), none⟩] [])
 (.seq
 (.reg [
 ⟨(some 24), (.mov (.t 1)), none⟩,
 ⟨(some 25), (.bin .lss (.t 24) (.c (.l (.v (.int .i64 0))))), none⟩] [])
 (.cond (.t 25)
 (.seq
 (.reg [
 ⟨(some 4), (.mov (.c (.l (.v (.int .i64 (-1)))))), none⟩] [])
 .ret)
 .skip))))
 (.reg [
 ⟨(some 16), (.mov (.t 5)), none⟩,
 ⟨(some 17), (.bin .add (.t 16) (.c (.l (.v (.int .i64 1))))), none⟩,
 ⟨(some 5), (.mov (.t 17)), none⟩] []))))))
 (.seq
 (.reg [
 ⟨(some 26), (.mov (.t 1)), none⟩,
 ⟨(some 4), (.mov (.t 26)), none⟩] [])
 .ret)))))
theorem c13_eq : Try.f13.body.bind (comp Try.prog Try.f13.ntmps) = some c13 := by kernel_rfl

/-- loop.example/collabdoc/laws.toOpS: params 1, results [2] -/
def c15 : ACode :=
 (.seq
 (.reg [
 ⟨(some 2), (.mov (.c (.l .emp))), none⟩] [])
 (.seq
 (.reg [
 ⟨(some 5), (.mov (.t 0)), none⟩,
 ⟨(some 6), (.len (.t 5)), none⟩,
 ⟨(some 7), (.mk 104 [(.v (.int .i64 0)), (.v (.int .i64 0)), (.v (.int .i64 0)), (.v (.int .i64 0)), (.v (.int .i64 0)), (.v (.int .i64 0)), (.v (.int .i64 0)), (.v (.int .i64 0)), (.v (.int .i64 0)), (.v (.int .i64 0)), (.v (.bool false)), (.v (.string ⟨#[]⟩))] (.t 6) (.t 6)), none⟩,
 ⟨(some 3), (.mov (.t 7)), none⟩] [])
 (.seq
 (.seq
 (.reg [
 ⟨(some 4), (.mov (.c (.l (.v (.int .i64 0))))), none⟩] [])
 (.block 0
 (.loop
 (.seq
 (.seq
 (.reg [
 ⟨(some 8), (.mov (.t 4)), none⟩,
 ⟨(some 9), (.mov (.t 0)), none⟩,
 ⟨(some 10), (.len (.t 9)), none⟩,
 ⟨(some 11), (.bin .lss (.t 8) (.t 10)), none⟩] [])
 (.cond (.t 11)
 .skip
 (.exit 0)))
 (.seq
 (.block 1
 (.reg [
 ⟨(some 14), (.mov (.t 3)), none⟩,
 ⟨(some 15), (.mov (.t 4)), none⟩,
 ⟨(some 16), (.mov (.t 0)), none⟩,
 ⟨(some 17), (.mov (.t 4)), none⟩,
 ⟨(some 18), (.iaddr 12 (.t 16) (.t 17)), none⟩,
 ⟨(some 19), (.load 12 true (.t 18)), none⟩,
 ⟨(some 20), (.call (.c (.l (.clos 62 []))) [(.t 19)]), none⟩,
 ⟨(some 21), (.iaddr 12 (.t 14) (.t 15)), none⟩,
 ⟨none, (.store 12 (.t 21) (.t 20)), none⟩] []))
 (.reg [
 ⟨(some 12), (.mov (.t 4)), none⟩,
 ⟨(some 13), (.bin .add (.t 12) (.c (.l (.v (.int .i64 1))))), none⟩,
 ⟨(some 4), (.mov (.t 13)), none⟩] []))))))
 (.seq
 (.reg [
 ⟨(some 22), (.mov (.t 3)), none⟩,
 ⟨(some 2), (.mov (.t 22)), none⟩] [])
 .ret))))
theorem c15_eq : Try.f15.body.bind (comp Try.prog Try.f15.ntmps) = some c15 := by kernel_rfl

/-- loop.example/collabdoc/laws.eqStamp: params 2, results [4] -/
def c17 : ACode :=
 (.seq
 (.reg [
 ⟨(some 2), (.box (.t 0)), none⟩,
 ⟨(some 3), (.box (.t 1)), none⟩,
 ⟨(some 4), (.mov (.c (.l (.v (.bool false))))), none⟩] [])
 (.seq
 (.seq
 (.reg [
 ⟨(some 5), (.faddr 0 (.t 2)), none⟩,
 ⟨(some 6), (.load 1 false (.t 5)), none⟩,
 ⟨(some 7), (.faddr 0 (.t 3)), none⟩,
 ⟨(some 8), (.load 1 false (.t 7)), none⟩,
 ⟨(some 9), (.bin .neq (.t 6) (.t 8)), none⟩] [])
 (.cond (.t 9)
 (.seq
 (.reg [
 ⟨(some 4), (.mov (.c (.l (.v (.bool false))))), none⟩] [])
 .ret)
 .skip))
 (.seq
 (.seq
 (.reg [
 ⟨(some 10), (.faddr 1 (.t 2)), none⟩,
 ⟨(some 11), (.load 1 false (.t 10)), none⟩,
 ⟨(some 12), (.faddr 1 (.t 3)), none⟩,
 ⟨(some 13), (.load 1 false (.t 12)), none⟩,
 ⟨(some 14), (.bin .neq (.t 11) (.t 13)), none⟩] [])
 (.cond (.t 14)
 (.seq
 (.reg [
 ⟨(some 4), (.mov (.c (.l (.v (.bool false))))), none⟩] [])
 .ret)
 .skip))
 (.seq
 (.reg [
 ⟨(some 4), (.mov (.c (.l (.v (.bool true))))), none⟩] [])
 .ret))))
theorem c17_eq : Try.f17.body.bind (comp Try.prog Try.f17.ntmps) = some c17 := by kernel_rfl

/-- loop.example/collabdoc/laws.eqOpS: params 2, results [4] -/
def c18 : ACode :=
 (.seq
 (.reg [
 ⟨(some 4), (.mov (.c (.l (.v (.bool false))))), none⟩] [])
 (.seq
 (.seq
 (.reg [
 ⟨(some 6), (.mov (.t 0)), none⟩,
 ⟨(some 7), (.len (.t 6)), none⟩,
 ⟨(some 8), (.mov (.t 1)), none⟩,
 ⟨(some 9), (.len (.t 8)), none⟩,
 ⟨(some 10), (.bin .neq (.t 7) (.t 9)), none⟩] [])
 (.cond (.t 10)
 (.seq
 (.reg [
 ⟨(some 4), (.mov (.c (.l (.v (.bool false))))), none⟩] [])
 .ret)
 .skip))
 (.seq
 (.seq
 (.reg [
 ⟨(some 5), (.mov (.c (.l (.v (.int .i64 0))))), none⟩] [])
 (.block 0
 (.loop
 (.seq
 (.seq
 (.reg [
 ⟨(some 11), (.mov (.t 5)), none⟩,
 ⟨(some 12), (.mov (.t 0)), none⟩,
 ⟨(some 13), (.len (.t 12)), none⟩,
 ⟨(some 14), (.bin .lss (.t 11) (.t 13)), none⟩] [])
 (.cond (.t 14)
 .skip
 (.exit 0)))
 (.seq
 (.block 1
 (.seq
 (.reg [
 ⟨(some 17), (.mov (.t 0)), none⟩,
 ⟨(some 18), (.mov (.t 5)), none⟩,
 ⟨(some 19), (.iaddr 12 (.t 17) (.t 18)), none⟩,
 ⟨(some 20), (.load 12 true (.t 19)), none⟩,
 ⟨(some 21), (.mov (.t 1)), none⟩,
 ⟨(some 22), (.mov (.t 5)), none⟩,
 ⟨(some 23), (.iaddr 12 (.t 21) (.t 22)), none⟩,
 ⟨(some 24), (.load 12 true (.t 23)), none⟩,
 ⟨(some 25), (.call (.c (.l (.clos 22 []))) [(.t 20), (.t 24)]), none⟩,
 ⟨(some 26), (.notb (.t 25)), none⟩] [])
 (.cond (.t 26)
 (.seq
 (.reg [
 ⟨(some 4), (.mov (.c (.l (.v (.bool false))))), none⟩] [])
 .ret)
 .skip)))
 (.reg [
 ⟨(some 15), (.mov (.t 5)), none⟩,
 ⟨(some 16), (.bin .add (.t 15) (.c (.l (.v (.int .i64 1))))), none⟩,
 ⟨(some 5), (.mov (.t 16)), none⟩] []))))))
 (.seq
 (.reg [
 ⟨(some 4), (.mov (.c (.l (.v (.bool true))))), none⟩] [])
 .ret))))
theorem c18_eq : Try.f18.body.bind (comp Try.prog Try.f18.ntmps) = some c18 := by kernel_rfl

/-- loop.example/collabdoc/laws.toStamp: params 1, results [CELL 2] -/
def c20 : ACode :=
 (.seq
 (.reg [
 ⟨(some 1), (.box (.t 0)), none⟩,
 ⟨(some 2), (.alloc [(.v (.int .i64 0)), (.v (.int .i64 0))]), none⟩] [])
 (.seq
 (.reg [
 ⟨(some 3), (.alloc [(.v (.int .i64 0)), (.v (.int .i64 0))]), none⟩] [])
 (.seq
 (.reg [
 ⟨(some 4), (.faddr 0 (.t 1)), none⟩,
 ⟨(some 5), (.load 1 false (.t 4)), none⟩,
 ⟨(some 6), (.faddr 0 (.t 3)), none⟩,
 ⟨none, (.store 1 (.t 6) (.t 5)), none⟩] [])
 (.seq
 (.reg [
 ⟨(some 7), (.faddr 1 (.t 1)), none⟩,
 ⟨(some 8), (.load 1 false (.t 7)), none⟩,
 ⟨(some 9), (.faddr 1 (.t 3)), none⟩,
 ⟨none, (.store 1 (.t 9) (.t 8)), none⟩] [])
 (.seq
 (.reg [
 ⟨(some 10), (.load 2 true (.t 3)), none⟩,
 ⟨none, (.store 2 (.t 2) (.t 10)), none⟩] [])
 .ret)))))
theorem c20_eq : Try.f20.body.bind (comp Try.prog Try.f20.ntmps) = some c20 := by kernel_rfl

/-- loop.example/collabdoc/laws.eqOp: params 2, results [4] -/
def c22 : ACode :=
 (.seq
 (.reg [
 ⟨(some 2), (.box (.t 0)), none⟩,
 ⟨(some 3), (.box (.t 1)), none⟩,
 ⟨(some 4), (.mov (.c (.l (.v (.bool false))))), none⟩] [])
 (.seq
 (.seq
 (.reg [
 ⟨(some 5), (.faddr 0 (.t 2)), none⟩,
 ⟨(some 6), (.load 2 true (.t 5)), none⟩,
 ⟨(some 7), (.faddr 0 (.t 3)), none⟩,
 ⟨(some 8), (.load 2 true (.t 7)), none⟩,
 ⟨(some 9), (.call (.c (.l (.clos 17 []))) [(.t 6), (.t 8)]), none⟩,
 ⟨(some 10), (.notb (.t 9)), none⟩] [])
 (.cond (.t 10)
 (.seq
 (.reg [
 ⟨(some 4), (.mov (.c (.l (.v (.bool false))))), none⟩] [])
 .ret)
 .skip))
 (.seq
 (.seq
 (.reg [
 ⟨(some 11), (.faddr 2 (.t 2)), none⟩,
 ⟨(some 12), (.load 1 false (.t 11)), none⟩,
 ⟨(some 13), (.faddr 2 (.t 3)), none⟩,
 ⟨(some 14), (.load 1 false (.t 13)), none⟩,
 ⟨(some 15), (.bin .neq (.t 12) (.t 14)), none⟩] [])
 (.cond (.t 15)
 (.seq
 (.reg [
 ⟨(some 4), (.mov (.c (.l (.v (.bool false))))), none⟩] [])
 .ret)
 .skip))
 (.seq
 (.seq
 (.reg [
 ⟨(some 16), (.faddr 3 (.t 2)), none⟩,
 ⟨(some 17), (.load 2 true (.t 16)), none⟩,
 ⟨(some 18), (.faddr 3 (.t 3)), none⟩,
 ⟨(some 19), (.load 2 true (.t 18)), none⟩,
 ⟨(some 20), (.call (.c (.l (.clos 17 []))) [(.t 17), (.t 19)]), none⟩,
 ⟨(some 21), (.notb (.t 20)), none⟩] [])
 (.cond (.t 21)
 (.seq
 (.reg [
 ⟨(some 4), (.mov (.c (.l (.v (.bool false))))), none⟩] [])
 .ret)
 .skip))
 (.seq
 (.seq
 (.reg [
 ⟨(some 22), (.faddr 5 (.t 2)), none⟩,
 ⟨(some 23), (.load 2 true (.t 22)), none⟩,
 ⟨(some 24), (.faddr 5 (.t 3)), none⟩,
 ⟨(some 25), (.load 2 true (.t 24)), none⟩,
 ⟨(some 26), (.call (.c (.l (.clos 17 []))) [(.t 23), (.t 25)]), none⟩,
 ⟨(some 27), (.notb (.t 26)), none⟩] [])
 (.cond (.t 27)
 (.seq
 (.reg [
 ⟨(some 4), (.mov (.c (.l (.v (.bool false))))), none⟩] [])
 .ret)
 .skip))
 (.seq
 (.seq
 (.reg [
 ⟨(some 28), (.faddr 7 (.t 2)), none⟩,
 ⟨(some 29), (.load 2 true (.t 28)), none⟩,
 ⟨(some 30), (.faddr 7 (.t 3)), none⟩,
 ⟨(some 31), (.load 2 true (.t 30)), none⟩,
 ⟨(some 32), (.call (.c (.l (.clos 17 []))) [(.t 29), (.t 31)]), none⟩,
 ⟨(some 33), (.notb (.t 32)), none⟩] [])
 (.cond (.t 33)
 (.seq
 (.reg [
 ⟨(some 4), (.mov (.c (.l (.v (.bool false))))), none⟩] [])
 .ret)
 .skip))
 (.seq
 (.seq
 (.reg [
 ⟨(some 34), (.faddr 9 (.t 2)), none⟩,
 ⟨(some 35), (.load 1 false (.t 34)), none⟩,
 ⟨(some 36), (.faddr 9 (.t 3)), none⟩,
 ⟨(some 37), (.load 1 false (.t 36)), none⟩,
 ⟨(some 38), (.bin .neq (.t 35) (.t 37)), none⟩] [])
 (.cond (.t 38)
 (.seq
 (.reg [
 ⟨(some 4), (.mov (.c (.l (.v (.bool false))))), none⟩] [])
 .ret)
 .skip))
 (.seq
 (.seq
 (.reg [
 ⟨(some 39), (.faddr 10 (.t 2)), none⟩,
 ⟨(some 40), (.load 1 false (.t 39)), none⟩,
 ⟨(some 41), (.faddr 10 (.t 3)), none⟩,
 ⟨(some 42), (.load 1 false (.t 41)), none⟩,
 ⟨(some 43), (.eqb true (.t 40) (.t 42)), none⟩] [])
 (.cond (.t 43)
 (.seq
 (.reg [
 ⟨(some 4), (.mov (.c (.l (.v (.bool false))))), none⟩] [])
 .ret)
 .skip))
 (.seq
 (.seq
 (.reg [
 ⟨(some 44), (.faddr 11 (.t 2)), none⟩,
 ⟨(some 45), (.load 1 false (.t 44)), none⟩,
 ⟨(some 46), (.faddr 11 (.t 3)), none⟩,
 ⟨(some 47), (.load 1 false (.t 46)), none⟩,
 ⟨(some 48), (.bin .neq (.t 45) (.t 47)), none⟩] [])
 (.cond (.t 48)
 (.seq
 (.reg [
 ⟨(some 4), (.mov (.c (.l (.v (.bool false))))), none⟩] [])
 .ret)
 .skip))
 (.seq
 (.reg [
 ⟨(some 4), (.mov (.c (.l (.v (.bool true))))), none⟩] [])
 .ret))))))))))
theorem c22_eq : Try.f22.body.bind (comp Try.prog Try.f22.ntmps) = some c22 := by kernel_rfl

/-- loop.example/collabdoc/laws.szReplica: params 2, results [4] -/
def c23 : ACode :=
 (.seq
 (.reg [
 ⟨(some 2), (.box (.t 0)), none⟩,
 ⟨(some 4), (.mov (.c (.l (.v (.int .i64 0))))), none⟩] [])
 (.seq
 (.reg [
 ⟨(some 5), (.faddr 1 (.t 2)), none⟩,
 ⟨(some 6), (.load 1 false (.t 5)), none⟩,
 ⟨(some 7), (.mov (.t 1)), none⟩,
 ⟨(some 8), (.call (.c (.l (.clos 13 []))) [(.t 6), (.t 7)]), none⟩,
 ⟨(some 1), (.mov (.t 8)), none⟩] [])
 (.seq
 (.seq
 (.reg [
 ⟨(some 9), (.mov (.t 1)), none⟩,
 ⟨(some 10), (.bin .lss (.t 9) (.c (.l (.v (.int .i64 0))))), none⟩] [])
 (.cond (.t 10)
 (.seq
 (.reg [
 ⟨(some 4), (.mov (.c (.l (.v (.int .i64 (-1)))))), none⟩] [])
 .ret)
 .skip))
 (.seq
 (.reg [
 ⟨(some 11), (.faddr 2 (.t 2)), none⟩,
 ⟨(some 12), (.load 1 false (.t 11)), none⟩,
 ⟨(some 13), (.mov (.t 1)), none⟩,
 ⟨(some 14), (.call (.c (.l (.clos 70 []))) [(.t 12), (.t 13)]), none⟩,
 ⟨(some 1), (.mov (.t 14)), none⟩] [])
 (.seq
 (.seq
 (.reg [
 ⟨(some 15), (.mov (.t 1)), none⟩,
 ⟨(some 16), (.bin .lss (.t 15) (.c (.l (.v (.int .i64 0))))), none⟩] [])
 (.cond (.t 16)
 (.seq
 (.reg [
 ⟨(some 4), (.mov (.c (.l (.v (.int .i64 (-1)))))), none⟩] [])
 .ret)
 .skip))
 (.seq
 (.reg [
 ⟨(some 17), (.mov (.t 1)), none⟩,
 ⟨(some 4), (.mov (.t 17)), none⟩] [])
 .ret))))))
theorem c23_eq : Try.f23.body.bind (comp Try.prog Try.f23.ntmps) = some c23 := by kernel_rfl

/-- loop.example/collabdoc/laws.toReplica: params 1, results [CELL 2] -/
def c25 : ACode :=
 (.seq
 (.reg [
 ⟨(some 1), (.box (.t 0)), none⟩,
 ⟨(some 2), (.alloc [(.v (.int .i64 0)), .emp, .emp]), none⟩] [])
 (.seq
 (.reg [
 ⟨(some 3), (.alloc [(.v (.int .i64 0)), .emp, .emp]), none⟩] [])
 (.seq
 (.reg [
 ⟨(some 4), (.faddr 0 (.t 1)), none⟩,
 ⟨(some 5), (.load 1 false (.t 4)), none⟩,
 ⟨(some 6), (.faddr 0 (.t 3)), none⟩,
 ⟨none, (.store 1 (.t 6) (.t 5)), none⟩] [])
 (.seq
 (.reg [
 ⟨(some 7), (.faddr 1 (.t 1)), none⟩,
 ⟨(some 8), (.load 1 false (.t 7)), none⟩,
 ⟨(some 9), (.call (.c (.l (.clos 15 []))) [(.t 8)]), none⟩,
 ⟨(some 10), (.faddr 1 (.t 3)), none⟩,
 ⟨none, (.store 1 (.t 10) (.t 9)), none⟩] [])
 (.seq
 (.reg [
 ⟨(some 11), (.faddr 2 (.t 1)), none⟩,
 ⟨(some 12), (.load 1 false (.t 11)), none⟩,
 ⟨(some 13), (.call (.c (.l (.clos 72 []))) [(.t 12)]), none⟩,
 ⟨(some 14), (.faddr 2 (.t 3)), none⟩,
 ⟨none, (.store 1 (.t 14) (.t 13)), none⟩] [])
 (.seq
 (.reg [
 ⟨(some 15), (.load 3 true (.t 3)), none⟩,
 ⟨none, (.store 3 (.t 2) (.t 15)), none⟩] [])
 .ret))))))
theorem c25_eq : Try.f25.body.bind (comp Try.prog Try.f25.ntmps) = some c25 := by kernel_rfl

/-- loop.example/collabdoc/impl.ValidReplica: params 1, results [2] -/
def c26 : ACode :=
 (.seq
 (.reg [
 ⟨(some 1), (.box (.t 0)), none⟩,
 ⟨(some 2), (.mov (.c (.l (.v (.bool false))))), none⟩] [])
 (.seq
 (.seq
 (.reg [
 ⟨(some 5), (.faddr 0 (.t 1)), none⟩,
 ⟨(some 6), (.load 1 false (.t 5)), none⟩,
 ⟨(some 7), (.call (.c (.l (.clos 73 []))) [(.t 6)]), none⟩,
 ⟨(some 8), (.notb (.t 7)), none⟩,
 ⟨(some 9), (.mov (.t 8)), none⟩,
 ⟨(some 10), (.faddr 1 (.t 1)), (some (9, false))⟩,
 ⟨(some 11), (.load 1 false (.t 10)), (some (9, false))⟩,
 ⟨(some 12), (.call (.c (.l (.clos 36 []))) [(.t 11)]), (some (9, false))⟩,
 ⟨(some 13), (.notb (.t 12)), (some (9, false))⟩,
 ⟨(some 14), (.pick (.t 9) (.c (.l (.v (.bool true)))) (.t 13)), none⟩,
 ⟨(some 15), (.mov (.t 14)), none⟩,
 ⟨(some 16), (.faddr 2 (.t 1)), (some (15, false))⟩,
 ⟨(some 17), (.load 1 false (.t 16)), (some (15, false))⟩,
 ⟨(some 18), (.len (.t 17)), (some (15, false))⟩,
 ⟨(some 19), (.bin .gtr (.t 18) (.c (.l (.v (.int .i64 20))))), (some (15, false))⟩,
 ⟨(some 20), (.pick (.t 15) (.c (.l (.v (.bool true)))) (.t 19)), none⟩] [])
 (.cond (.t 20)
 (.seq
 (.reg [
 ⟨(some 2), (.mov (.c (.l (.v (.bool false))))), none⟩] [])
 .ret)
 .skip))
 (.seq
 (.seq
 (.reg [
 ⟨(some 21), (.faddr 2 (.t 1)), none⟩,
 ⟨(some 22), (.load 1 false (.t 21)), none⟩,
 ⟨(some 23), (.len (.t 22)), none⟩,
 ⟨(some 24), (.mov (.c (.l (.v (.int .i64 0))))), none⟩] [])
 (.block 0
 (.loop
 (.seq
 (.reg [
 ⟨(some 25), (.bin .lss (.t 24) (.t 23)), none⟩] [])
 (.seq
 (.cond (.t 25)
 .skip
 (.exit 0))
 (.seq
 (.block 1
 (.seq
 (.reg [
 ⟨(some 26), (.mov (.t 24)), none⟩,
 ⟨(some 27), (.iaddr 13 (.t 22) (.t 24)), none⟩,
 ⟨(some 28), (.load 13 true (.t 27)), none⟩,
 ⟨(some 4), (.alloc [(.v (.int .i64 0)), (.v (.int .i64 0)), (.v (.int .i64 0)), (.v (.int .i64 0)), (.v (.int .i64 0)), (.v (.int .i64 0)), (.v (.int .i64 0)), (.v (.int .i64 0)), (.v (.int .i64 0)), (.v (.int .i64 0)), (.v (.bool false)), (.v (.string ⟨#[]⟩)), (.v (.int .i64 0))]), none⟩,
 ⟨(some 3), (.mov (.t 26)), none⟩,
 ⟨none, (.store 13 (.t 4) (.t 28)), none⟩] [])
 (.seq
 (.reg [
 ⟨(some 29), (.load 13 true (.t 4)), none⟩,
 ⟨(some 30), (.call (.c (.l (.clos 74 []))) [(.t 29)]), none⟩,
 ⟨(some 31), (.notb (.t 30)), none⟩,
 ⟨(some 32), (.mov (.t 31)), none⟩,
 ⟨(some 33), (.mov (.t 3)), (some (32, false))⟩,
 ⟨(some 34), (.bin .gtr (.t 33) (.c (.l (.v (.int .i64 0))))), (some (32, false))⟩,
 ⟨(some 35), (.mov (.t 34)), (some (32, false))⟩,
 ⟨(some 36), (.faddr 2 (.t 1)), (some (35, true))⟩,
 ⟨(some 37), (.load 1 false (.t 36)), (some (35, true))⟩,
 ⟨(some 38), (.mov (.t 3)), (some (35, true))⟩,
 ⟨(some 39), (.bin .sub (.t 38) (.c (.l (.v (.int .i64 1))))), (some (35, true))⟩,
 ⟨(some 40), (.iaddr 13 (.t 37) (.t 39)), (some (35, true))⟩,
 ⟨(some 41), (.faddr 0 (.t 40)), (some (35, true))⟩,
 ⟨(some 42), (.faddr 0 (.t 41)), (some (35, true))⟩,
 ⟨(some 43), (.load 2 true (.t 42)), (some (35, true))⟩,
 ⟨(some 44), (.faddr 0 (.t 4)), (some (35, true))⟩,
 ⟨(some 45), (.faddr 0 (.t 44)), (some (35, true))⟩,
 ⟨(some 46), (.load 2 true (.t 45)), (some (35, true))⟩,
 ⟨(some 47), (.call (.c (.l (.clos 40 []))) [(.t 43), (.t 46)]), (some (35, true))⟩,
 ⟨(some 48), (.notb (.t 47)), (some (35, true))⟩,
 ⟨(some 49), (.pick (.t 35) (.t 48) (.c (.l (.v (.bool false))))), (some (32, false))⟩,
 ⟨(some 50), (.pick (.t 32) (.c (.l (.v (.bool true)))) (.t 49)), none⟩] [])
 (.cond (.t 50)
 (.seq
 (.reg [
 ⟨(some 2), (.mov (.c (.l (.v (.bool false))))), none⟩] [])
 .ret)
 .skip))))
 (.reg [
 ⟨(some 51), (.bin .add (.t 24) (.c (.l (.v (.int .i64 1))))), none⟩,
 ⟨(some 24), (.mov (.t 51)), none⟩] [])))))))
 (.seq
 (.reg [
 ⟨(some 2), (.mov (.c (.l (.v (.bool true))))), none⟩] [])
 .ret))))
theorem c26_eq : Try.f26.body.bind (comp Try.prog Try.f26.ntmps) = some c26 := by kernel_rfl

/-- loop.example/collabdoc/laws.eqReplica: params 2, results [4] -/
def c27 : ACode :=
 (.seq
 (.reg [
 ⟨(some 2), (.box (.t 0)), none⟩,
 ⟨(some 3), (.box (.t 1)), none⟩,
 ⟨(some 4), (.mov (.c (.l (.v (.bool false))))), none⟩] [])
 (.seq
 (.seq
 (.reg [
 ⟨(some 5), (.faddr 0 (.t 2)), none⟩,
 ⟨(some 6), (.load 1 false (.t 5)), none⟩,
 ⟨(some 7), (.faddr 0 (.t 3)), none⟩,
 ⟨(some 8), (.load 1 false (.t 7)), none⟩,
 ⟨(some 9), (.bin .neq (.t 6) (.t 8)), none⟩] [])
 (.cond (.t 9)
 (.seq
 (.reg [
 ⟨(some 4), (.mov (.c (.l (.v (.bool false))))), none⟩] [])
 .ret)
 .skip))
 (.seq
 (.seq
 (.reg [
 ⟨(some 10), (.faddr 1 (.t 2)), none⟩,
 ⟨(some 11), (.load 1 false (.t 10)), none⟩,
 ⟨(some 12), (.faddr 1 (.t 3)), none⟩,
 ⟨(some 13), (.load 1 false (.t 12)), none⟩,
 ⟨(some 14), (.call (.c (.l (.clos 18 []))) [(.t 11), (.t 13)]), none⟩,
 ⟨(some 15), (.notb (.t 14)), none⟩] [])
 (.cond (.t 15)
 (.seq
 (.reg [
 ⟨(some 4), (.mov (.c (.l (.v (.bool false))))), none⟩] [])
 .ret)
 .skip))
 (.seq
 (.seq
 (.reg [
 ⟨(some 16), (.faddr 2 (.t 2)), none⟩,
 ⟨(some 17), (.load 1 false (.t 16)), none⟩,
 ⟨(some 18), (.faddr 2 (.t 3)), none⟩,
 ⟨(some 19), (.load 1 false (.t 18)), none⟩,
 ⟨(some 20), (.call (.c (.l (.clos 53 []))) [(.t 17), (.t 19)]), none⟩,
 ⟨(some 21), (.notb (.t 20)), none⟩] [])
 (.cond (.t 21)
 (.seq
 (.reg [
 ⟨(some 4), (.mov (.c (.l (.v (.bool false))))), none⟩] [])
 .ret)
 .skip))
 (.seq
 (.reg [
 ⟨(some 4), (.mov (.c (.l (.v (.bool true))))), none⟩] [])
 .ret)))))
theorem c27_eq : Try.f27.body.bind (comp Try.prog Try.f27.ntmps) = some c27 := by kernel_rfl

/-- loop.example/collabdoc/laws.markOpS: params 2, results [4] -/
def c30 : ACode :=
 (.seq
 (.reg [
 ⟨(some 4), (.mov (.c (.l (.v (.int .i64 0))))), none⟩] [])
 (.seq
 (.seq
 (.reg [
 ⟨(some 5), (.mov (.c (.l (.v (.int .i64 0))))), none⟩] [])
 (.block 0
 (.loop
 (.seq
 (.seq
 (.reg [
 ⟨(some 6), (.mov (.t 5)), none⟩,
 ⟨(some 7), (.mov (.t 0)), none⟩,
 ⟨(some 8), (.len (.t 7)), none⟩,
 ⟨(some 9), (.bin .lss (.t 6) (.t 8)), none⟩] [])
 (.cond (.t 9)
 .skip
 (.exit 0)))
 (.seq
 (.block 1
 (.seq
 (.reg [
 ⟨(some 12), (.mov (.t 0)), none⟩,
 ⟨(some 13), (.mov (.t 5)), none⟩,
 ⟨(some 14), (.mov (.t 1)), none⟩,
 ⟨(some 15), (.iaddr 12 (.t 12) (.t 13)), none⟩,
 ⟨(some 16), (.faddr 0 (.t 15)), none⟩,
 ⟨(some 17), (.faddr 0 (.t 16)), none⟩,
 ⟨none, (.store 1 (.t 17) (.t 14)), none⟩] [])
 (.seq
 (.reg [
 ⟨(some 18), (.mov (.t 1)), none⟩,
 ⟨(some 19), (.bin .add (.t 18) (.c (.l (.v (.int .i64 1))))), none⟩,
 ⟨(some 1), (.mov (.t 19)), none⟩] [])
 (.seq
 (.reg [
 ⟨(some 20), (.mov (.t 0)), none⟩,
 ⟨(some 21), (.mov (.t 5)), none⟩,
 ⟨(some 22), (.mov (.t 1)), none⟩,
 ⟨(some 23), (.iaddr 12 (.t 20) (.t 21)), none⟩,
 ⟨(some 24), (.faddr 0 (.t 23)), none⟩,
 ⟨(some 25), (.faddr 1 (.t 24)), none⟩,
 ⟨none, (.store 1 (.t 25) (.t 22)), none⟩] [])
 (.seq
 (.reg [
 ⟨(some 26), (.mov (.t 1)), none⟩,
 ⟨(some 27), (.bin .add (.t 26) (.c (.l (.v (.int .i64 1))))), none⟩,
 ⟨(some 1), (.mov (.t 27)), none⟩] [])
 (.seq
 (.reg [
 ⟨(some 28), (.mov (.t 0)), none⟩,
 ⟨(some 29), (.mov (.t 5)), none⟩,
 ⟨(some 30), (.mov (.t 1)), none⟩,
 ⟨(some 31), (.iaddr 12 (.t 28) (.t 29)), none⟩,
 ⟨(some 32), (.faddr 2 (.t 31)), none⟩,
 ⟨none, (.store 1 (.t 32) (.t 30)), none⟩] [])
 (.seq
 (.reg [
 ⟨(some 33), (.mov (.t 1)), none⟩,
 ⟨(some 34), (.bin .add (.t 33) (.c (.l (.v (.int .i64 1))))), none⟩,
 ⟨(some 1), (.mov (.t 34)), none⟩] [])
 (.seq
 (.reg [
 ⟨(some 35), (.mov (.t 0)), none⟩,
 ⟨(some 36), (.mov (.t 5)), none⟩,
 ⟨(some 37), (.mov (.t 1)), none⟩,
 ⟨(some 38), (.iaddr 12 (.t 35) (.t 36)), none⟩,
 ⟨(some 39), (.faddr 3 (.t 38)), none⟩,
 ⟨(some 40), (.faddr 0 (.t 39)), none⟩,
 ⟨none, (.store 1 (.t 40) (.t 37)), none⟩] [])
 (.seq
 (.reg [
 ⟨(some 41), (.mov (.t 1)), none⟩,
 ⟨(some 42), (.bin .add (.t 41) (.c (.l (.v (.int .i64 1))))), none⟩,
 ⟨(some 1), (.mov (.t 42)), none⟩] [])
 (.seq
 (.reg [
 ⟨(some 43), (.mov (.t 0)), none⟩,
 ⟨(some 44), (.mov (.t 5)), none⟩,
 ⟨(some 45), (.mov (.t 1)), none⟩,
 ⟨(some 46), (.iaddr 12 (.t 43) (.t 44)), none⟩,
 ⟨(some 47), (.faddr 3 (.t 46)), none⟩,
 ⟨(some 48), (.faddr 1 (.t 47)), none⟩,
 ⟨none, (.store 1 (.t 48) (.t 45)), none⟩] [])
 (.seq
 (.reg [
 ⟨(some 49), (.mov (.t 1)), none⟩,
 ⟨(some 50), (.bin .add (.t 49) (.c (.l (.v (.int .i64 1))))), none⟩,
 ⟨(some 1), (.mov (.t 50)), none⟩] [])
 (.seq
 (.reg [
 ⟨(some 51), (.mov (.t 0)), none⟩,
 ⟨(some 52), (.mov (.t 5)), none⟩,
 ⟨(some 53), (.mov (.t 1)), none⟩,
 ⟨(some 54), (.iaddr 12 (.t 51) (.t 52)), none⟩,
 ⟨(some 55), (.faddr 5 (.t 54)), none⟩,
 ⟨(some 56), (.faddr 0 (.t 55)), none⟩,
 ⟨none, (.store 1 (.t 56) (.t 53)), none⟩] [])
 (.seq
 (.reg [
 ⟨(some 57), (.mov (.t 1)), none⟩,
 ⟨(some 58), (.bin .add (.t 57) (.c (.l (.v (.int .i64 1))))), none⟩,
 ⟨(some 1), (.mov (.t 58)), none⟩] [])
 (.seq
 (.reg [
 ⟨(some 59), (.mov (.t 0)), none⟩,
 ⟨(some 60), (.mov (.t 5)), none⟩,
 ⟨(some 61), (.mov (.t 1)), none⟩,
 ⟨(some 62), (.iaddr 12 (.t 59) (.t 60)), none⟩,
 ⟨(some 63), (.faddr 5 (.t 62)), none⟩,
 ⟨(some 64), (.faddr 1 (.t 63)), none⟩,
 ⟨none, (.store 1 (.t 64) (.t 61)), none⟩] [])
 (.seq
 (.reg [
 ⟨(some 65), (.mov (.t 1)), none⟩,
 ⟨(some 66), (.bin .add (.t 65) (.c (.l (.v (.int .i64 1))))), none⟩,
 ⟨(some 1), (.mov (.t 66)), none⟩] [])
 (.seq
 (.reg [
 ⟨(some 67), (.mov (.t 0)), none⟩,
 ⟨(some 68), (.mov (.t 5)), none⟩,
 ⟨(some 69), (.mov (.t 1)), none⟩,
 ⟨(some 70), (.iaddr 12 (.t 67) (.t 68)), none⟩,
 ⟨(some 71), (.faddr 7 (.t 70)), none⟩,
 ⟨(some 72), (.faddr 0 (.t 71)), none⟩,
 ⟨none, (.store 1 (.t 72) (.t 69)), none⟩] [])
 (.seq
 (.reg [
 ⟨(some 73), (.mov (.t 1)), none⟩,
 ⟨(some 74), (.bin .add (.t 73) (.c (.l (.v (.int .i64 1))))), none⟩,
 ⟨(some 1), (.mov (.t 74)), none⟩] [])
 (.seq
 (.reg [
 ⟨(some 75), (.mov (.t 0)), none⟩,
 ⟨(some 76), (.mov (.t 5)), none⟩,
 ⟨(some 77), (.mov (.t 1)), none⟩,
 ⟨(some 78), (.iaddr 12 (.t 75) (.t 76)), none⟩,
 ⟨(some 79), (.faddr 7 (.t 78)), none⟩,
 ⟨(some 80), (.faddr 1 (.t 79)), none⟩,
 ⟨none, (.store 1 (.t 80) (.t 77)), none⟩] [])
 (.seq
 (.reg [
 ⟨(some 81), (.mov (.t 1)), none⟩,
 ⟨(some 82), (.bin .add (.t 81) (.c (.l (.v (.int .i64 1))))), none⟩,
 ⟨(some 1), (.mov (.t 82)), none⟩] [])
 (.seq
 (.reg [
 ⟨(some 83), (.mov (.t 0)), none⟩,
 ⟨(some 84), (.mov (.t 5)), none⟩,
 ⟨(some 85), (.mov (.t 1)), none⟩,
 ⟨(some 86), (.iaddr 12 (.t 83) (.t 84)), none⟩,
 ⟨(some 87), (.faddr 9 (.t 86)), none⟩,
 ⟨none, (.store 1 (.t 87) (.t 85)), none⟩] [])
 (.seq
 (.reg [
 ⟨(some 88), (.mov (.t 1)), none⟩,
 ⟨(some 89), (.bin .add (.t 88) (.c (.l (.v (.int .i64 1))))), none⟩,
 ⟨(some 1), (.mov (.t 89)), none⟩] [])
 (.seq
 (.reg [
 ⟨(some 90), (.mov (.t 0)), none⟩,
 ⟨(some 91), (.mov (.t 5)), none⟩,
 ⟨(some 92), (.mov (.t 1)), none⟩,
 ⟨(some 93), (.bin .rem (.t 92) (.c (.l (.v (.int .i64 3))))), none⟩,
 ⟨(some 94), (.bin .eql (.t 93) (.c (.l (.v (.int .i64 0))))), none⟩,
 ⟨(some 95), (.iaddr 12 (.t 90) (.t 91)), none⟩,
 ⟨(some 96), (.faddr 10 (.t 95)), none⟩,
 ⟨none, (.store 1 (.t 96) (.t 94)), none⟩] [])
 (.seq
 (.reg [
 ⟨(some 97), (.mov (.t 1)), none⟩,
 ⟨(some 98), (.bin .add (.t 97) (.c (.l (.v (.int .i64 1))))), none⟩,
 ⟨(some 1), (.mov (.t 98)), none⟩] [])
 (.seq
 (.reg [
 ⟨(some 99), (.mov (.t 0)), none⟩,
 ⟨(some 100), (.mov (.t 5)), none⟩,
 ⟨(some 101), (.mov (.t 1)), none⟩,
 ⟨(some 102), (.call (.c (.l (.clos 75 []))) [(.t 101)]), none⟩,
 ⟨(some 103), (.iaddr 12 (.t 99) (.t 100)), none⟩,
 ⟨(some 104), (.faddr 11 (.t 103)), none⟩,
 ⟨none, (.store 1 (.t 104) (.t 102)), none⟩] [])
 (.reg [
 ⟨(some 105), (.mov (.t 1)), none⟩,
 ⟨(some 106), (.bin .add (.t 105) (.c (.l (.v (.int .i64 1))))), none⟩,
 ⟨(some 1), (.mov (.t 106)), none⟩] [])))))))))))))))))))))))))
 (.reg [
 ⟨(some 10), (.mov (.t 5)), none⟩,
 ⟨(some 11), (.bin .add (.t 10) (.c (.l (.v (.int .i64 1))))), none⟩,
 ⟨(some 5), (.mov (.t 11)), none⟩] []))))))
 (.seq
 (.reg [
 ⟨(some 107), (.mov (.t 1)), none⟩,
 ⟨(some 4), (.mov (.t 107)), none⟩] [])
 .ret)))
theorem c30_eq : Try.f30.body.bind (comp Try.prog Try.f30.ntmps) = some c30 := by kernel_rfl

/-- loop.example/collabdoc/impl.ValidLog: params 1, results [2] -/
def c36 : ACode :=
 (.seq
 (.reg [
 ⟨(some 2), (.mov (.c (.l (.v (.bool false))))), none⟩] [])
 (.seq
 (.seq
 (.reg [
 ⟨(some 5), (.mov (.t 0)), none⟩,
 ⟨(some 6), (.len (.t 5)), none⟩,
 ⟨(some 7), (.mov (.c (.l (.v (.int .i64 0))))), none⟩] [])
 (.block 0
 (.loop
 (.seq
 (.reg [
 ⟨(some 8), (.bin .lss (.t 7) (.t 6)), none⟩] [])
 (.seq
 (.cond (.t 8)
 .skip
 (.exit 0))
 (.seq
 (.block 1
 (.seq
 (.reg [
 ⟨(some 9), (.mov (.t 7)), none⟩,
 ⟨(some 10), (.iaddr 12 (.t 5) (.t 7)), none⟩,
 ⟨(some 11), (.load 12 true (.t 10)), none⟩,
 ⟨(some 4), (.alloc [(.v (.int .i64 0)), (.v (.int .i64 0)), (.v (.int .i64 0)), (.v (.int .i64 0)), (.v (.int .i64 0)), (.v (.int .i64 0)), (.v (.int .i64 0)), (.v (.int .i64 0)), (.v (.int .i64 0)), (.v (.int .i64 0)), (.v (.bool false)), (.v (.string ⟨#[]⟩))]), none⟩,
 ⟨(some 3), (.mov (.t 9)), none⟩,
 ⟨none, (.store 12 (.t 4) (.t 11)), none⟩] [])
 (.seq
 (.reg [
 ⟨(some 12), (.load 12 true (.t 4)), none⟩,
 ⟨(some 13), (.call (.c (.l (.clos 77 []))) [(.t 12)]), none⟩,
 ⟨(some 14), (.notb (.t 13)), none⟩,
 ⟨(some 15), (.mov (.t 14)), none⟩,
 ⟨(some 16), (.mov (.t 3)), (some (15, false))⟩,
 ⟨(some 17), (.bin .gtr (.t 16) (.c (.l (.v (.int .i64 0))))), (some (15, false))⟩,
 ⟨(some 18), (.mov (.t 17)), (some (15, false))⟩,
 ⟨(some 19), (.mov (.t 0)), (some (18, true))⟩,
 ⟨(some 20), (.mov (.t 3)), (some (18, true))⟩,
 ⟨(some 21), (.bin .sub (.t 20) (.c (.l (.v (.int .i64 1))))), (some (18, true))⟩,
 ⟨(some 22), (.iaddr 12 (.t 19) (.t 21)), (some (18, true))⟩,
 ⟨(some 23), (.faddr 0 (.t 22)), (some (18, true))⟩,
 ⟨(some 24), (.load 2 true (.t 23)), (some (18, true))⟩,
 ⟨(some 25), (.faddr 0 (.t 4)), (some (18, true))⟩,
 ⟨(some 26), (.load 2 true (.t 25)), (some (18, true))⟩,
 ⟨(some 27), (.call (.c (.l (.clos 40 []))) [(.t 24), (.t 26)]), (some (18, true))⟩,
 ⟨(some 28), (.notb (.t 27)), (some (18, true))⟩,
 ⟨(some 29), (.pick (.t 18) (.t 28) (.c (.l (.v (.bool false))))), (some (15, false))⟩,
 ⟨(some 30), (.pick (.t 15) (.c (.l (.v (.bool true)))) (.t 29)), none⟩] [])
 (.cond (.t 30)
 (.seq
 (.reg [
 ⟨(some 2), (.mov (.c (.l (.v (.bool false))))), none⟩] [])
 .ret)
 .skip))))
 (.reg [
 ⟨(some 31), (.bin .add (.t 7) (.c (.l (.v (.int .i64 1))))), none⟩,
 ⟨(some 7), (.mov (.t 31)), none⟩] [])))))))
 (.seq
 (.reg [
 ⟨(some 32), (.mov (.t 0)), none⟩,
 ⟨(some 33), (.len (.t 32)), none⟩,
 ⟨(some 34), (.bin .leq (.t 33) (.c (.l (.v (.int .i64 40))))), none⟩,
 ⟨(some 2), (.mov (.t 34)), none⟩] [])
 .ret)))
theorem c36_eq : Try.f36.body.bind (comp Try.prog Try.f36.ntmps) = some c36 := by kernel_rfl

/-- loop.example/collabdoc/impl.StampLess: params 2, results [4] -/
def c40 : ACode :=
 (.seq
 (.reg [
 ⟨(some 2), (.box (.t 0)), none⟩,
 ⟨(some 3), (.box (.t 1)), none⟩,
 ⟨(some 4), (.mov (.c (.l (.v (.bool false))))), none⟩] [])
 (.seq
 (.reg [
 ⟨(some 5), (.faddr 0 (.t 2)), none⟩,
 ⟨(some 6), (.load 1 false (.t 5)), none⟩,
 ⟨(some 7), (.faddr 0 (.t 3)), none⟩,
 ⟨(some 8), (.load 1 false (.t 7)), none⟩,
 ⟨(some 9), (.bin .lss (.t 6) (.t 8)), none⟩,
 ⟨(some 10), (.mov (.t 9)), none⟩,
 ⟨(some 11), (.faddr 0 (.t 2)), (some (10, false))⟩,
 ⟨(some 12), (.load 1 false (.t 11)), (some (10, false))⟩,
 ⟨(some 13), (.faddr 0 (.t 3)), (some (10, false))⟩,
 ⟨(some 14), (.load 1 false (.t 13)), (some (10, false))⟩,
 ⟨(some 15), (.bin .eql (.t 12) (.t 14)), (some (10, false))⟩,
 ⟨(some 16), (.mov (.t 15)), (some (10, false))⟩,
 ⟨(some 17), (.faddr 1 (.t 2)), (some (16, true))⟩,
 ⟨(some 18), (.load 1 false (.t 17)), (some (16, true))⟩,
 ⟨(some 19), (.faddr 1 (.t 3)), (some (16, true))⟩,
 ⟨(some 20), (.load 1 false (.t 19)), (some (16, true))⟩,
 ⟨(some 21), (.bin .lss (.t 18) (.t 20)), (some (16, true))⟩,
 ⟨(some 22), (.pick (.t 16) (.t 21) (.c (.l (.v (.bool false))))), (some (10, false))⟩,
 ⟨(some 23), (.pick (.t 10) (.c (.l (.v (.bool true)))) (.t 22)), none⟩,
 ⟨(some 4), (.mov (.t 23)), none⟩] [])
 .ret))
theorem c40_eq : Try.f40.body.bind (comp Try.prog Try.f40.ntmps) = some c40 := by kernel_rfl

/-- loop.example/collabdoc/spec.ReplicaMissing: params 2, results [4] -/
def c50 : ACode :=
 (.seq
 (.reg [
 ⟨(some 2), (.box (.t 0)), none⟩,
 ⟨(some 4), (.mov (.c (.l .emp))), none⟩] [])
 (.seq
 (.reg [
 ⟨(some 7), (.bsl 0 [(.v (.int .i64 0)), (.v (.int .i64 0)), (.v (.int .i64 0)), (.v (.int .i64 0)), (.v (.int .i64 0)), (.v (.int .i64 0)), (.v (.int .i64 0)), (.v (.int .i64 0)), (.v (.int .i64 0)), (.v (.int .i64 0)), (.v (.bool false)), (.v (.string ⟨#[]⟩)), (.v (.int .i64 0))] []), none⟩,
 ⟨(some 5), (.mov (.t 7)), none⟩] [])
 (.seq
 (.seq
 (.reg [
 ⟨(some 8), (.load 3 true (.t 2)), none⟩,
 ⟨(some 9), (.call (.c (.l (.clos 71 []))) [(.t 8)]), none⟩,
 ⟨(some 10), (.notb (.t 9)), none⟩,
 ⟨(some 11), (.mov (.t 10)), none⟩,
 ⟨(some 12), (.mov (.t 1)), (some (11, false))⟩,
 ⟨(some 13), (.call (.c (.l (.clos 93 []))) [(.t 12)]), (some (11, false))⟩,
 ⟨(some 14), (.notb (.t 13)), (some (11, false))⟩,
 ⟨(some 15), (.pick (.t 11) (.c (.l (.v (.bool true)))) (.t 14)), none⟩] [])
 (.cond (.t 15)
 (.seq
 (.reg [
 ⟨(some 4), (.mov (.c (.l .emp))), none⟩] [])
 .ret)
 .skip))
 (.seq
 (.seq
 (.reg [
 ⟨(some 6), (.mov (.c (.l (.v (.int .i64 0))))), none⟩] [])
 (.block 0
 (.loop
 (.seq
 (.seq
 (.reg [
 ⟨(some 16), (.mov (.t 6)), none⟩,
 ⟨(some 17), (.faddr 1 (.t 2)), none⟩,
 ⟨(some 18), (.load 1 false (.t 17)), none⟩,
 ⟨(some 19), (.len (.t 18)), none⟩,
 ⟨(some 20), (.bin .lss (.t 16) (.t 19)), none⟩] [])
 (.cond (.t 20)
 .skip
 (.exit 0)))
 (.seq
 (.block 1
 (.seq
 (.reg [
 ⟨(some 23), (.mov (.t 1)), none⟩,
 ⟨(some 24), (.faddr 1 (.t 2)), none⟩,
 ⟨(some 25), (.load 1 false (.t 24)), none⟩,
 ⟨(some 26), (.mov (.t 6)), none⟩,
 ⟨(some 27), (.iaddr 12 (.t 25) (.t 26)), none⟩,
 ⟨(some 28), (.faddr 0 (.t 27)), none⟩,
 ⟨(some 29), (.load 2 true (.t 28)), none⟩,
 ⟨(some 30), (.call (.c (.l (.clos 94 []))) [(.t 23), (.t 29)]), none⟩,
 ⟨(some 31), (.notb (.t 30)), none⟩] [])
 (.cond (.t 31)
 (.reg [
 ⟨(some 32), (.mov (.t 5)), none⟩,
 ⟨(some 33), (.faddr 1 (.t 2)), none⟩,
 ⟨(some 34), (.load 1 false (.t 33)), none⟩,
 ⟨(some 35), (.faddr 1 (.t 2)), none⟩,
 ⟨(some 36), (.load 1 false (.t 35)), none⟩,
 ⟨(some 37), (.mov (.t 6)), none⟩,
 ⟨(some 38), (.iaddr 12 (.t 36) (.t 37)), none⟩,
 ⟨(some 39), (.load 12 true (.t 38)), none⟩,
 ⟨(some 40), (.call (.c (.l (.clos 95 []))) [(.t 34), (.t 39)]), none⟩,
 ⟨(some 41), (.bsl 1 [(.v (.int .i64 0)), (.v (.int .i64 0)), (.v (.int .i64 0)), (.v (.int .i64 0)), (.v (.int .i64 0)), (.v (.int .i64 0)), (.v (.int .i64 0)), (.v (.int .i64 0)), (.v (.int .i64 0)), (.v (.int .i64 0)), (.v (.bool false)), (.v (.string ⟨#[]⟩)), (.v (.int .i64 0))] [(0, (.t 40))]), none⟩,
 ⟨(some 42), (.app 112 [(.v (.int .i64 0)), (.v (.int .i64 0)), (.v (.int .i64 0)), (.v (.int .i64 0)), (.v (.int .i64 0)), (.v (.int .i64 0)), (.v (.int .i64 0)), (.v (.int .i64 0)), (.v (.int .i64 0)), (.v (.int .i64 0)), (.v (.bool false)), (.v (.string ⟨#[]⟩)), (.v (.int .i64 0))] (.t 32) (.t 41)), none⟩,
 ⟨(some 5), (.mov (.t 42)), none⟩] [])
 .skip)))
 (.reg [
 ⟨(some 21), (.mov (.t 6)), none⟩,
 ⟨(some 22), (.bin .add (.t 21) (.c (.l (.v (.int .i64 1))))), none⟩,
 ⟨(some 6), (.mov (.t 22)), none⟩] []))))))
 (.seq
 (.reg [
 ⟨(some 43), (.mov (.t 5)), none⟩,
 ⟨(some 4), (.mov (.t 43)), none⟩] [])
 .ret)))))
theorem c50_eq : Try.f50.body.bind (comp Try.prog Try.f50.ntmps) = some c50 := by kernel_rfl

/-- loop.example/collabdoc/laws.toIntS: params 1, results [2] -/
def c51 : ACode :=
 (.seq
 (.reg [
 ⟨(some 2), (.mov (.c (.l .emp))), none⟩] [])
 (.seq
 (.reg [
 ⟨(some 5), (.mov (.t 0)), none⟩,
 ⟨(some 6), (.len (.t 5)), none⟩,
 ⟨(some 7), (.mk 8 [(.v (.int .i64 0))] (.t 6) (.t 6)), none⟩,
 ⟨(some 3), (.mov (.t 7)), none⟩] [])
 (.seq
 (.seq
 (.reg [
 ⟨(some 4), (.mov (.c (.l (.v (.int .i64 0))))), none⟩] [])
 (.block 0
 (.loop
 (.seq
 (.seq
 (.reg [
 ⟨(some 8), (.mov (.t 4)), none⟩,
 ⟨(some 9), (.mov (.t 0)), none⟩,
 ⟨(some 10), (.len (.t 9)), none⟩,
 ⟨(some 11), (.bin .lss (.t 8) (.t 10)), none⟩] [])
 (.cond (.t 11)
 .skip
 (.exit 0)))
 (.seq
 (.block 1
 (.reg [
 ⟨(some 14), (.mov (.t 3)), none⟩,
 ⟨(some 15), (.mov (.t 4)), none⟩,
 ⟨(some 16), (.mov (.t 0)), none⟩,
 ⟨(some 17), (.mov (.t 4)), none⟩,
 ⟨(some 18), (.iaddr 1 (.t 16) (.t 17)), none⟩,
 ⟨(some 19), (.load 1 false (.t 18)), none⟩,
 ⟨(some 20), (.iaddr 1 (.t 14) (.t 15)), none⟩,
 ⟨none, (.store 1 (.t 20) (.t 19)), none⟩] []))
 (.reg [
 ⟨(some 12), (.mov (.t 4)), none⟩,
 ⟨(some 13), (.bin .add (.t 12) (.c (.l (.v (.int .i64 1))))), none⟩,
 ⟨(some 4), (.mov (.t 13)), none⟩] []))))))
 (.seq
 (.reg [
 ⟨(some 21), (.mov (.t 3)), none⟩,
 ⟨(some 2), (.mov (.t 21)), none⟩] [])
 .ret))))
theorem c51_eq : Try.f51.body.bind (comp Try.prog Try.f51.ntmps) = some c51 := by kernel_rfl

/-- loop.example/collabdoc/impl.ReplicaMissing: params 2, results [4] -/
def c52 : ACode :=
 (.seq
 (.reg [
 ⟨(some 2), (.box (.t 0)), none⟩,
 ⟨(some 4), (.mov (.c (.l .emp))), none⟩] [])
 (.seq
 (.seq
 (.reg [
 ⟨(some 8), (.load 3 true (.t 2)), none⟩,
 ⟨(some 9), (.call (.c (.l (.clos 26 []))) [(.t 8)]), none⟩,
 ⟨(some 10), (.notb (.t 9)), none⟩,
 ⟨(some 11), (.mov (.t 10)), none⟩,
 ⟨(some 12), (.mov (.t 1)), (some (11, false))⟩,
 ⟨(some 13), (.call (.c (.l (.clos 96 []))) [(.t 12)]), (some (11, false))⟩,
 ⟨(some 14), (.notb (.t 13)), (some (11, false))⟩,
 ⟨(some 15), (.pick (.t 11) (.c (.l (.v (.bool true)))) (.t 14)), none⟩] [])
 (.cond (.t 15)
 (.seq
 (.reg [
 ⟨(some 4), (.mov (.c (.l .emp))), none⟩] [])
 .ret)
 .skip))
 (.seq
 (.reg [
 ⟨(some 16), (.bsl 0 [(.v (.int .i64 0)), (.v (.int .i64 0)), (.v (.int .i64 0)), (.v (.int .i64 0)), (.v (.int .i64 0)), (.v (.int .i64 0)), (.v (.int .i64 0)), (.v (.int .i64 0)), (.v (.int .i64 0)), (.v (.int .i64 0)), (.v (.bool false)), (.v (.string ⟨#[]⟩)), (.v (.int .i64 0))] []), none⟩,
 ⟨(some 5), (.mov (.t 16)), none⟩] [])
 (.seq
 (.seq
 (.reg [
 ⟨(some 17), (.faddr 1 (.t 2)), none⟩,
 ⟨(some 18), (.load 1 false (.t 17)), none⟩,
 ⟨(some 19), (.len (.t 18)), none⟩,
 ⟨(some 20), (.mov (.c (.l (.v (.int .i64 0))))), none⟩] [])
 (.block 0
 (.loop
 (.seq
 (.reg [
 ⟨(some 21), (.bin .lss (.t 20) (.t 19)), none⟩] [])
 (.seq
 (.cond (.t 21)
 .skip
 (.exit 0))
 (.seq
 (.block 1
 (.seq
 (.reg [
 ⟨(some 22), (.iaddr 12 (.t 18) (.t 20)), none⟩,
 ⟨(some 23), (.load 12 true (.t 22)), none⟩,
 ⟨(some 7), (.alloc [(.v (.int .i64 0)), (.v (.int .i64 0)), (.v (.int .i64 0)), (.v (.int .i64 0)), (.v (.int .i64 0)), (.v (.int .i64 0)), (.v (.int .i64 0)), (.v (.int .i64 0)), (.v (.int .i64 0)), (.v (.int .i64 0)), (.v (.bool false)), (.v (.string ⟨#[]⟩))]), none⟩,
 ⟨none, (.store 12 (.t 7) (.t 23)), none⟩] [])
 (.seq
 (.reg [
 ⟨(some 24), (.mov (.t 1)), none⟩,
 ⟨(some 25), (.faddr 0 (.t 7)), none⟩,
 ⟨(some 26), (.load 2 true (.t 25)), none⟩,
 ⟨(some 27), (.call (.c (.l (.clos 97 []))) [(.t 24), (.t 26)]), none⟩,
 ⟨(some 28), (.notb (.t 27)), none⟩] [])
 (.cond (.t 28)
 (.reg [
 ⟨(some 29), (.mov (.t 5)), none⟩,
 ⟨(some 30), (.load 12 true (.t 7)), none⟩,
 ⟨(some 31), (.faddr 1 (.t 2)), none⟩,
 ⟨(some 32), (.load 1 false (.t 31)), none⟩,
 ⟨(some 33), (.faddr 0 (.t 7)), none⟩,
 ⟨(some 34), (.load 2 true (.t 33)), none⟩,
 ⟨(some 35), (.call (.c (.l (.clos 98 []))) [(.t 32), (.t 34)]), none⟩,
 ⟨(some 36), (.build [(.v (.int .i64 0)), (.v (.int .i64 0)), (.v (.int .i64 0)), (.v (.int .i64 0)), (.v (.int .i64 0)), (.v (.int .i64 0)), (.v (.int .i64 0)), (.v (.int .i64 0)), (.v (.int .i64 0)), (.v (.int .i64 0)), (.v (.bool false)), (.v (.string ⟨#[]⟩)), (.v (.int .i64 0))] [(0, 12, (.t 30)), (12, 1, (.t 35))]), none⟩,
 ⟨(some 37), (.bsl 1 [(.v (.int .i64 0)), (.v (.int .i64 0)), (.v (.int .i64 0)), (.v (.int .i64 0)), (.v (.int .i64 0)), (.v (.int .i64 0)), (.v (.int .i64 0)), (.v (.int .i64 0)), (.v (.int .i64 0)), (.v (.int .i64 0)), (.v (.bool false)), (.v (.string ⟨#[]⟩)), (.v (.int .i64 0))] [(0, (.t 36))]), none⟩,
 ⟨(some 38), (.app 112 [(.v (.int .i64 0)), (.v (.int .i64 0)), (.v (.int .i64 0)), (.v (.int .i64 0)), (.v (.int .i64 0)), (.v (.int .i64 0)), (.v (.int .i64 0)), (.v (.int .i64 0)), (.v (.int .i64 0)), (.v (.int .i64 0)), (.v (.bool false)), (.v (.string ⟨#[]⟩)), (.v (.int .i64 0))] (.t 29) (.t 37)), none⟩,
 ⟨(some 5), (.mov (.t 38)), none⟩] [[], [], [], [], [], [], [1], [], [], [], []])
 .skip))))
 (.reg [
 ⟨(some 39), (.bin .add (.t 20) (.c (.l (.v (.int .i64 1))))), none⟩,
 ⟨(some 20), (.mov (.t 39)), none⟩] [])))))))
 (.seq
 (.reg [
 ⟨(some 40), (.mov (.t 5)), none⟩,
 ⟨(some 4), (.mov (.t 40)), none⟩] [])
 .ret)))))
theorem c52_eq : Try.f52.body.bind (comp Try.prog Try.f52.ntmps) = some c52 := by kernel_rfl

/-- loop.example/collabdoc/laws.eqMessageS: params 2, results [4] -/
def c53 : ACode :=
 (.seq
 (.reg [
 ⟨(some 4), (.mov (.c (.l (.v (.bool false))))), none⟩] [])
 (.seq
 (.seq
 (.reg [
 ⟨(some 6), (.mov (.t 0)), none⟩,
 ⟨(some 7), (.len (.t 6)), none⟩,
 ⟨(some 8), (.mov (.t 1)), none⟩,
 ⟨(some 9), (.len (.t 8)), none⟩,
 ⟨(some 10), (.bin .neq (.t 7) (.t 9)), none⟩] [])
 (.cond (.t 10)
 (.seq
 (.reg [
 ⟨(some 4), (.mov (.c (.l (.v (.bool false))))), none⟩] [])
 .ret)
 .skip))
 (.seq
 (.seq
 (.reg [
 ⟨(some 5), (.mov (.c (.l (.v (.int .i64 0))))), none⟩] [])
 (.block 0
 (.loop
 (.seq
 (.seq
 (.reg [
 ⟨(some 11), (.mov (.t 5)), none⟩,
 ⟨(some 12), (.mov (.t 0)), none⟩,
 ⟨(some 13), (.len (.t 12)), none⟩,
 ⟨(some 14), (.bin .lss (.t 11) (.t 13)), none⟩] [])
 (.cond (.t 14)
 .skip
 (.exit 0)))
 (.seq
 (.block 1
 (.seq
 (.reg [
 ⟨(some 17), (.mov (.t 0)), none⟩,
 ⟨(some 18), (.mov (.t 5)), none⟩,
 ⟨(some 19), (.iaddr 13 (.t 17) (.t 18)), none⟩,
 ⟨(some 20), (.load 13 true (.t 19)), none⟩,
 ⟨(some 21), (.mov (.t 1)), none⟩,
 ⟨(some 22), (.mov (.t 5)), none⟩,
 ⟨(some 23), (.iaddr 13 (.t 21) (.t 22)), none⟩,
 ⟨(some 24), (.load 13 true (.t 23)), none⟩,
 ⟨(some 25), (.call (.c (.l (.clos 99 []))) [(.t 20), (.t 24)]), none⟩,
 ⟨(some 26), (.notb (.t 25)), none⟩] [])
 (.cond (.t 26)
 (.seq
 (.reg [
 ⟨(some 4), (.mov (.c (.l (.v (.bool false))))), none⟩] [])
 .ret)
 .skip)))
 (.reg [
 ⟨(some 15), (.mov (.t 5)), none⟩,
 ⟨(some 16), (.bin .add (.t 15) (.c (.l (.v (.int .i64 1))))), none⟩,
 ⟨(some 5), (.mov (.t 16)), none⟩] []))))))
 (.seq
 (.reg [
 ⟨(some 4), (.mov (.c (.l (.v (.bool true))))), none⟩] [])
 .ret))))
theorem c53_eq : Try.f53.body.bind (comp Try.prog Try.f53.ntmps) = some c53 := by kernel_rfl

/-- loop.example/collabdoc/laws.eqIntS: params 2, results [4] -/
def c54 : ACode :=
 (.seq
 (.reg [
 ⟨(some 4), (.mov (.c (.l (.v (.bool false))))), none⟩] [])
 (.seq
 (.seq
 (.reg [
 ⟨(some 6), (.mov (.t 0)), none⟩,
 ⟨(some 7), (.len (.t 6)), none⟩,
 ⟨(some 8), (.mov (.t 1)), none⟩,
 ⟨(some 9), (.len (.t 8)), none⟩,
 ⟨(some 10), (.bin .neq (.t 7) (.t 9)), none⟩] [])
 (.cond (.t 10)
 (.seq
 (.reg [
 ⟨(some 4), (.mov (.c (.l (.v (.bool false))))), none⟩] [])
 .ret)
 .skip))
 (.seq
 (.seq
 (.reg [
 ⟨(some 5), (.mov (.c (.l (.v (.int .i64 0))))), none⟩] [])
 (.block 0
 (.loop
 (.seq
 (.seq
 (.reg [
 ⟨(some 11), (.mov (.t 5)), none⟩,
 ⟨(some 12), (.mov (.t 0)), none⟩,
 ⟨(some 13), (.len (.t 12)), none⟩,
 ⟨(some 14), (.bin .lss (.t 11) (.t 13)), none⟩] [])
 (.cond (.t 14)
 .skip
 (.exit 0)))
 (.seq
 (.block 1
 (.seq
 (.reg [
 ⟨(some 17), (.mov (.t 0)), none⟩,
 ⟨(some 18), (.mov (.t 5)), none⟩,
 ⟨(some 19), (.iaddr 1 (.t 17) (.t 18)), none⟩,
 ⟨(some 20), (.load 1 false (.t 19)), none⟩,
 ⟨(some 21), (.mov (.t 1)), none⟩,
 ⟨(some 22), (.mov (.t 5)), none⟩,
 ⟨(some 23), (.iaddr 1 (.t 21) (.t 22)), none⟩,
 ⟨(some 24), (.load 1 false (.t 23)), none⟩,
 ⟨(some 25), (.bin .neq (.t 20) (.t 24)), none⟩] [])
 (.cond (.t 25)
 (.seq
 (.reg [
 ⟨(some 4), (.mov (.c (.l (.v (.bool false))))), none⟩] [])
 .ret)
 .skip)))
 (.reg [
 ⟨(some 15), (.mov (.t 5)), none⟩,
 ⟨(some 16), (.bin .add (.t 15) (.c (.l (.v (.int .i64 1))))), none⟩,
 ⟨(some 5), (.mov (.t 16)), none⟩] []))))))
 (.seq
 (.reg [
 ⟨(some 4), (.mov (.c (.l (.v (.bool true))))), none⟩] [])
 .ret))))
theorem c54_eq : Try.f54.body.bind (comp Try.prog Try.f54.ntmps) = some c54 := by kernel_rfl

/-- loop.example/collabdoc/laws.markReplica: params 2, results [4] -/
def c55 : ACode :=
 (.seq
 (.reg [
 ⟨(some 2), (.box (.t 0)), none⟩,
 ⟨(some 4), (.mov (.c (.l (.v (.int .i64 0))))), none⟩] [])
 (.seq
 (.reg [
 ⟨(some 5), (.faddr 1 (.t 2)), none⟩,
 ⟨(some 6), (.load 1 false (.t 5)), none⟩,
 ⟨(some 7), (.mov (.t 1)), none⟩,
 ⟨(some 8), (.call (.c (.l (.clos 30 []))) [(.t 6), (.t 7)]), none⟩,
 ⟨(some 1), (.mov (.t 8)), none⟩] [])
 (.seq
 (.reg [
 ⟨(some 9), (.faddr 2 (.t 2)), none⟩,
 ⟨(some 10), (.load 1 false (.t 9)), none⟩,
 ⟨(some 11), (.mov (.t 1)), none⟩,
 ⟨(some 12), (.call (.c (.l (.clos 57 []))) [(.t 10), (.t 11)]), none⟩,
 ⟨(some 1), (.mov (.t 12)), none⟩] [])
 (.seq
 (.reg [
 ⟨(some 13), (.mov (.t 1)), none⟩,
 ⟨(some 4), (.mov (.t 13)), none⟩] [])
 .ret))))
theorem c55_eq : Try.f55.body.bind (comp Try.prog Try.f55.ntmps) = some c55 := by kernel_rfl

/-- loop.example/collabdoc/laws.markIntS: params 2, results [4] -/
def c56 : ACode :=
 (.seq
 (.reg [
 ⟨(some 4), (.mov (.c (.l (.v (.int .i64 0))))), none⟩] [])
 (.seq
 (.seq
 (.reg [
 ⟨(some 5), (.mov (.c (.l (.v (.int .i64 0))))), none⟩] [])
 (.block 0
 (.loop
 (.seq
 (.seq
 (.reg [
 ⟨(some 6), (.mov (.t 5)), none⟩,
 ⟨(some 7), (.mov (.t 0)), none⟩,
 ⟨(some 8), (.len (.t 7)), none⟩,
 ⟨(some 9), (.bin .lss (.t 6) (.t 8)), none⟩] [])
 (.cond (.t 9)
 .skip
 (.exit 0)))
 (.seq
 (.block 1
 (.seq
 (.reg [
 ⟨(some 12), (.mov (.t 0)), none⟩,
 ⟨(some 13), (.mov (.t 5)), none⟩,
 ⟨(some 14), (.mov (.t 1)), none⟩,
 ⟨(some 15), (.iaddr 1 (.t 12) (.t 13)), none⟩,
 ⟨none, (.store 1 (.t 15) (.t 14)), none⟩] [])
 (.reg [
 ⟨(some 16), (.mov (.t 1)), none⟩,
 ⟨(some 17), (.bin .add (.t 16) (.c (.l (.v (.int .i64 1))))), none⟩,
 ⟨(some 1), (.mov (.t 17)), none⟩] [])))
 (.reg [
 ⟨(some 10), (.mov (.t 5)), none⟩,
 ⟨(some 11), (.bin .add (.t 10) (.c (.l (.v (.int .i64 1))))), none⟩,
 ⟨(some 5), (.mov (.t 11)), none⟩] []))))))
 (.seq
 (.reg [
 ⟨(some 18), (.mov (.t 1)), none⟩,
 ⟨(some 4), (.mov (.t 18)), none⟩] [])
 .ret)))
theorem c56_eq : Try.f56.body.bind (comp Try.prog Try.f56.ntmps) = some c56 := by kernel_rfl

/-- loop.example/collabdoc/laws.markMessageS: params 2, results [4] -/
def c57 : ACode :=
 (.seq
 (.reg [
 ⟨(some 4), (.mov (.c (.l (.v (.int .i64 0))))), none⟩] [])
 (.seq
 (.seq
 (.reg [
 ⟨(some 5), (.mov (.c (.l (.v (.int .i64 0))))), none⟩] [])
 (.block 0
 (.loop
 (.seq
 (.seq
 (.reg [
 ⟨(some 6), (.mov (.t 5)), none⟩,
 ⟨(some 7), (.mov (.t 0)), none⟩,
 ⟨(some 8), (.len (.t 7)), none⟩,
 ⟨(some 9), (.bin .lss (.t 6) (.t 8)), none⟩] [])
 (.cond (.t 9)
 .skip
 (.exit 0)))
 (.seq
 (.block 1
 (.seq
 (.reg [
 ⟨(some 12), (.mov (.t 0)), none⟩,
 ⟨(some 13), (.mov (.t 5)), none⟩,
 ⟨(some 14), (.mov (.t 1)), none⟩,
 ⟨(some 15), (.iaddr 13 (.t 12) (.t 13)), none⟩,
 ⟨(some 16), (.faddr 0 (.t 15)), none⟩,
 ⟨(some 17), (.faddr 0 (.t 16)), none⟩,
 ⟨(some 18), (.faddr 0 (.t 17)), none⟩,
 ⟨none, (.store 1 (.t 18) (.t 14)), none⟩] [])
 (.seq
 (.reg [
 ⟨(some 19), (.mov (.t 1)), none⟩,
 ⟨(some 20), (.bin .add (.t 19) (.c (.l (.v (.int .i64 1))))), none⟩,
 ⟨(some 1), (.mov (.t 20)), none⟩] [])
 (.seq
 (.reg [
 ⟨(some 21), (.mov (.t 0)), none⟩,
 ⟨(some 22), (.mov (.t 5)), none⟩,
 ⟨(some 23), (.mov (.t 1)), none⟩,
 ⟨(some 24), (.iaddr 13 (.t 21) (.t 22)), none⟩,
 ⟨(some 25), (.faddr 0 (.t 24)), none⟩,
 ⟨(some 26), (.faddr 0 (.t 25)), none⟩,
 ⟨(some 27), (.faddr 1 (.t 26)), none⟩,
 ⟨none, (.store 1 (.t 27) (.t 23)), none⟩] [])
 (.seq
 (.reg [
 ⟨(some 28), (.mov (.t 1)), none⟩,
 ⟨(some 29), (.bin .add (.t 28) (.c (.l (.v (.int .i64 1))))), none⟩,
 ⟨(some 1), (.mov (.t 29)), none⟩] [])
 (.seq
 (.reg [
 ⟨(some 30), (.mov (.t 0)), none⟩,
 ⟨(some 31), (.mov (.t 5)), none⟩,
 ⟨(some 32), (.mov (.t 1)), none⟩,
 ⟨(some 33), (.iaddr 13 (.t 30) (.t 31)), none⟩,
 ⟨(some 34), (.faddr 0 (.t 33)), none⟩,
 ⟨(some 35), (.faddr 2 (.t 34)), none⟩,
 ⟨none, (.store 1 (.t 35) (.t 32)), none⟩] [])
 (.seq
 (.reg [
 ⟨(some 36), (.mov (.t 1)), none⟩,
 ⟨(some 37), (.bin .add (.t 36) (.c (.l (.v (.int .i64 1))))), none⟩,
 ⟨(some 1), (.mov (.t 37)), none⟩] [])
 (.seq
 (.reg [
 ⟨(some 38), (.mov (.t 0)), none⟩,
 ⟨(some 39), (.mov (.t 5)), none⟩,
 ⟨(some 40), (.mov (.t 1)), none⟩,
 ⟨(some 41), (.iaddr 13 (.t 38) (.t 39)), none⟩,
 ⟨(some 42), (.faddr 0 (.t 41)), none⟩,
 ⟨(some 43), (.faddr 3 (.t 42)), none⟩,
 ⟨(some 44), (.faddr 0 (.t 43)), none⟩,
 ⟨none, (.store 1 (.t 44) (.t 40)), none⟩] [])
 (.seq
 (.reg [
 ⟨(some 45), (.mov (.t 1)), none⟩,
 ⟨(some 46), (.bin .add (.t 45) (.c (.l (.v (.int .i64 1))))), none⟩,
 ⟨(some 1), (.mov (.t 46)), none⟩] [])
 (.seq
 (.reg [
 ⟨(some 47), (.mov (.t 0)), none⟩,
 ⟨(some 48), (.mov (.t 5)), none⟩,
 ⟨(some 49), (.mov (.t 1)), none⟩,
 ⟨(some 50), (.iaddr 13 (.t 47) (.t 48)), none⟩,
 ⟨(some 51), (.faddr 0 (.t 50)), none⟩,
 ⟨(some 52), (.faddr 3 (.t 51)), none⟩,
 ⟨(some 53), (.faddr 1 (.t 52)), none⟩,
 ⟨none, (.store 1 (.t 53) (.t 49)), none⟩] [])
 (.seq
 (.reg [
 ⟨(some 54), (.mov (.t 1)), none⟩,
 ⟨(some 55), (.bin .add (.t 54) (.c (.l (.v (.int .i64 1))))), none⟩,
 ⟨(some 1), (.mov (.t 55)), none⟩] [])
 (.seq
 (.reg [
 ⟨(some 56), (.mov (.t 0)), none⟩,
 ⟨(some 57), (.mov (.t 5)), none⟩,
 ⟨(some 58), (.mov (.t 1)), none⟩,
 ⟨(some 59), (.iaddr 13 (.t 56) (.t 57)), none⟩,
 ⟨(some 60), (.faddr 0 (.t 59)), none⟩,
 ⟨(some 61), (.faddr 5 (.t 60)), none⟩,
 ⟨(some 62), (.faddr 0 (.t 61)), none⟩,
 ⟨none, (.store 1 (.t 62) (.t 58)), none⟩] [])
 (.seq
 (.reg [
 ⟨(some 63), (.mov (.t 1)), none⟩,
 ⟨(some 64), (.bin .add (.t 63) (.c (.l (.v (.int .i64 1))))), none⟩,
 ⟨(some 1), (.mov (.t 64)), none⟩] [])
 (.seq
 (.reg [
 ⟨(some 65), (.mov (.t 0)), none⟩,
 ⟨(some 66), (.mov (.t 5)), none⟩,
 ⟨(some 67), (.mov (.t 1)), none⟩,
 ⟨(some 68), (.iaddr 13 (.t 65) (.t 66)), none⟩,
 ⟨(some 69), (.faddr 0 (.t 68)), none⟩,
 ⟨(some 70), (.faddr 5 (.t 69)), none⟩,
 ⟨(some 71), (.faddr 1 (.t 70)), none⟩,
 ⟨none, (.store 1 (.t 71) (.t 67)), none⟩] [])
 (.seq
 (.reg [
 ⟨(some 72), (.mov (.t 1)), none⟩,
 ⟨(some 73), (.bin .add (.t 72) (.c (.l (.v (.int .i64 1))))), none⟩,
 ⟨(some 1), (.mov (.t 73)), none⟩] [])
 (.seq
 (.reg [
 ⟨(some 74), (.mov (.t 0)), none⟩,
 ⟨(some 75), (.mov (.t 5)), none⟩,
 ⟨(some 76), (.mov (.t 1)), none⟩,
 ⟨(some 77), (.iaddr 13 (.t 74) (.t 75)), none⟩,
 ⟨(some 78), (.faddr 0 (.t 77)), none⟩,
 ⟨(some 79), (.faddr 7 (.t 78)), none⟩,
 ⟨(some 80), (.faddr 0 (.t 79)), none⟩,
 ⟨none, (.store 1 (.t 80) (.t 76)), none⟩] [])
 (.seq
 (.reg [
 ⟨(some 81), (.mov (.t 1)), none⟩,
 ⟨(some 82), (.bin .add (.t 81) (.c (.l (.v (.int .i64 1))))), none⟩,
 ⟨(some 1), (.mov (.t 82)), none⟩] [])
 (.seq
 (.reg [
 ⟨(some 83), (.mov (.t 0)), none⟩,
 ⟨(some 84), (.mov (.t 5)), none⟩,
 ⟨(some 85), (.mov (.t 1)), none⟩,
 ⟨(some 86), (.iaddr 13 (.t 83) (.t 84)), none⟩,
 ⟨(some 87), (.faddr 0 (.t 86)), none⟩,
 ⟨(some 88), (.faddr 7 (.t 87)), none⟩,
 ⟨(some 89), (.faddr 1 (.t 88)), none⟩,
 ⟨none, (.store 1 (.t 89) (.t 85)), none⟩] [])
 (.seq
 (.reg [
 ⟨(some 90), (.mov (.t 1)), none⟩,
 ⟨(some 91), (.bin .add (.t 90) (.c (.l (.v (.int .i64 1))))), none⟩,
 ⟨(some 1), (.mov (.t 91)), none⟩] [])
 (.seq
 (.reg [
 ⟨(some 92), (.mov (.t 0)), none⟩,
 ⟨(some 93), (.mov (.t 5)), none⟩,
 ⟨(some 94), (.mov (.t 1)), none⟩,
 ⟨(some 95), (.iaddr 13 (.t 92) (.t 93)), none⟩,
 ⟨(some 96), (.faddr 0 (.t 95)), none⟩,
 ⟨(some 97), (.faddr 9 (.t 96)), none⟩,
 ⟨none, (.store 1 (.t 97) (.t 94)), none⟩] [])
 (.seq
 (.reg [
 ⟨(some 98), (.mov (.t 1)), none⟩,
 ⟨(some 99), (.bin .add (.t 98) (.c (.l (.v (.int .i64 1))))), none⟩,
 ⟨(some 1), (.mov (.t 99)), none⟩] [])
 (.seq
 (.reg [
 ⟨(some 100), (.mov (.t 0)), none⟩,
 ⟨(some 101), (.mov (.t 5)), none⟩,
 ⟨(some 102), (.mov (.t 1)), none⟩,
 ⟨(some 103), (.bin .rem (.t 102) (.c (.l (.v (.int .i64 3))))), none⟩,
 ⟨(some 104), (.bin .eql (.t 103) (.c (.l (.v (.int .i64 0))))), none⟩,
 ⟨(some 105), (.iaddr 13 (.t 100) (.t 101)), none⟩,
 ⟨(some 106), (.faddr 0 (.t 105)), none⟩,
 ⟨(some 107), (.faddr 10 (.t 106)), none⟩,
 ⟨none, (.store 1 (.t 107) (.t 104)), none⟩] [])
 (.seq
 (.reg [
 ⟨(some 108), (.mov (.t 1)), none⟩,
 ⟨(some 109), (.bin .add (.t 108) (.c (.l (.v (.int .i64 1))))), none⟩,
 ⟨(some 1), (.mov (.t 109)), none⟩] [])
 (.seq
 (.reg [
 ⟨(some 110), (.mov (.t 0)), none⟩,
 ⟨(some 111), (.mov (.t 5)), none⟩,
 ⟨(some 112), (.mov (.t 1)), none⟩,
 ⟨(some 113), (.call (.c (.l (.clos 75 []))) [(.t 112)]), none⟩,
 ⟨(some 114), (.iaddr 13 (.t 110) (.t 111)), none⟩,
 ⟨(some 115), (.faddr 0 (.t 114)), none⟩,
 ⟨(some 116), (.faddr 11 (.t 115)), none⟩,
 ⟨none, (.store 1 (.t 116) (.t 113)), none⟩] [])
 (.seq
 (.reg [
 ⟨(some 117), (.mov (.t 1)), none⟩,
 ⟨(some 118), (.bin .add (.t 117) (.c (.l (.v (.int .i64 1))))), none⟩,
 ⟨(some 1), (.mov (.t 118)), none⟩] [])
 (.seq
 (.reg [
 ⟨(some 119), (.mov (.t 0)), none⟩,
 ⟨(some 120), (.mov (.t 5)), none⟩,
 ⟨(some 121), (.mov (.t 1)), none⟩,
 ⟨(some 122), (.iaddr 13 (.t 119) (.t 120)), none⟩,
 ⟨(some 123), (.faddr 12 (.t 122)), none⟩,
 ⟨none, (.store 1 (.t 123) (.t 121)), none⟩] [])
 (.reg [
 ⟨(some 124), (.mov (.t 1)), none⟩,
 ⟨(some 125), (.bin .add (.t 124) (.c (.l (.v (.int .i64 1))))), none⟩,
 ⟨(some 1), (.mov (.t 125)), none⟩] [])))))))))))))))))))))))))))
 (.reg [
 ⟨(some 10), (.mov (.t 5)), none⟩,
 ⟨(some 11), (.bin .add (.t 10) (.c (.l (.v (.int .i64 1))))), none⟩,
 ⟨(some 5), (.mov (.t 11)), none⟩] []))))))
 (.seq
 (.reg [
 ⟨(some 126), (.mov (.t 1)), none⟩,
 ⟨(some 4), (.mov (.t 126)), none⟩] [])
 .ret)))
theorem c57_eq : Try.f57.body.bind (comp Try.prog Try.f57.ntmps) = some c57 := by kernel_rfl

/-- loop.example/collabdoc/laws.heldMessageS: params 2, results [4] -/
def c58 : ACode :=
 (.seq
 (.reg [
 ⟨(some 4), (.mov (.c (.l (.v (.int .i64 0))))), none⟩] [])
 (.seq
 (.seq
 (.reg [
 ⟨(some 5), (.mov (.c (.l (.v (.int .i64 0))))), none⟩] [])
 (.block 0
 (.loop
 (.seq
 (.seq
 (.reg [
 ⟨(some 6), (.mov (.t 5)), none⟩,
 ⟨(some 7), (.mov (.t 0)), none⟩,
 ⟨(some 8), (.len (.t 7)), none⟩,
 ⟨(some 9), (.bin .lss (.t 6) (.t 8)), none⟩] [])
 (.cond (.t 9)
 .skip
 (.exit 0)))
 (.seq
 (.block 1
 (.seq
 (.seq
 (.reg [
 ⟨(some 12), (.mov (.t 0)), none⟩,
 ⟨(some 13), (.mov (.t 5)), none⟩,
 ⟨(some 14), (.iaddr 13 (.t 12) (.t 13)), none⟩,
 ⟨(some 15), (.faddr 0 (.t 14)), none⟩,
 ⟨(some 16), (.faddr 0 (.t 15)), none⟩,
 ⟨(some 17), (.faddr 0 (.t 16)), none⟩,
 ⟨(some 18), (.load 1 false (.t 17)), none⟩,
 ⟨(some 19), (.mov (.t 1)), none⟩,
 ⟨(some 20), (.bin .neq (.t 18) (.t 19)), none⟩] [])
 (.cond (.t 20)
 (.seq
 (.reg [
 ⟨(some 4), (.mov (.c (.l (.v (.int .i64 (-1)))))), none⟩] [])
 .ret)
 .skip))
 (.seq
 (.reg [
 ⟨(some 21), (.mov (.t 1)), none⟩,
 ⟨(some 22), (.bin .add (.t 21) (.c (.l (.v (.int .i64 1))))), none⟩,
 ⟨(some 1), (.mov (.t 22)), none⟩] [])
 (.seq
 (.seq
 (.reg [
 ⟨(some 23), (.mov (.t 0)), none⟩,
 ⟨(some 24), (.mov (.t 5)), none⟩,
 ⟨(some 25), (.iaddr 13 (.t 23) (.t 24)), none⟩,
 ⟨(some 26), (.faddr 0 (.t 25)), none⟩,
 ⟨(some 27), (.faddr 0 (.t 26)), none⟩,
 ⟨(some 28), (.faddr 1 (.t 27)), none⟩,
 ⟨(some 29), (.load 1 false (.t 28)), none⟩,
 ⟨(some 30), (.mov (.t 1)), none⟩,
 ⟨(some 31), (.bin .neq (.t 29) (.t 30)), none⟩] [])
 (.cond (.t 31)
 (.seq
 (.reg [
 ⟨(some 4), (.mov (.c (.l (.v (.int .i64 (-1)))))), none⟩] [])
 .ret)
 .skip))
 (.seq
 (.reg [
 ⟨(some 32), (.mov (.t 1)), none⟩,
 ⟨(some 33), (.bin .add (.t 32) (.c (.l (.v (.int .i64 1))))), none⟩,
 ⟨(some 1), (.mov (.t 33)), none⟩] [])
 (.seq
 (.seq
 (.reg [
 ⟨(some 34), (.mov (.t 0)), none⟩,
 ⟨(some 35), (.mov (.t 5)), none⟩,
 ⟨(some 36), (.iaddr 13 (.t 34) (.t 35)), none⟩,
 ⟨(some 37), (.faddr 0 (.t 36)), none⟩,
 ⟨(some 38), (.faddr 2 (.t 37)), none⟩,
 ⟨(some 39), (.load 1 false (.t 38)), none⟩,
 ⟨(some 40), (.mov (.t 1)), none⟩,
 ⟨(some 41), (.bin .neq (.t 39) (.t 40)), none⟩] [])
 (.cond (.t 41)
 (.seq
 (.reg [
 ⟨(some 4), (.mov (.c (.l (.v (.int .i64 (-1)))))), none⟩] [])
 .ret)
 .skip))
 (.seq
 (.reg [
 ⟨(some 42), (.mov (.t 1)), none⟩,
 ⟨(some 43), (.bin .add (.t 42) (.c (.l (.v (.int .i64 1))))), none⟩,
 ⟨(some 1), (.mov (.t 43)), none⟩] [])
 (.seq
 (.seq
 (.reg [
 ⟨(some 44), (.mov (.t 0)), none⟩,
 ⟨(some 45), (.mov (.t 5)), none⟩,
 ⟨(some 46), (.iaddr 13 (.t 44) (.t 45)), none⟩,
 ⟨(some 47), (.faddr 0 (.t 46)), none⟩,
 ⟨(some 48), (.faddr 3 (.t 47)), none⟩,
 ⟨(some 49), (.faddr 0 (.t 48)), none⟩,
 ⟨(some 50), (.load 1 false (.t 49)), none⟩,
 ⟨(some 51), (.mov (.t 1)), none⟩,
 ⟨(some 52), (.bin .neq (.t 50) (.t 51)), none⟩] [])
 (.cond (.t 52)
 (.seq
 (.reg [
 ⟨(some 4), (.mov (.c (.l (.v (.int .i64 (-1)))))), none⟩] [])
 .ret)
 .skip))
 (.seq
 (.reg [
 ⟨(some 53), (.mov (.t 1)), none⟩,
 ⟨(some 54), (.bin .add (.t 53) (.c (.l (.v (.int .i64 1))))), none⟩,
 ⟨(some 1), (.mov (.t 54)), none⟩] [])
 (.seq
 (.seq
 (.reg [
 ⟨(some 55), (.mov (.t 0)), none⟩,
 ⟨(some 56), (.mov (.t 5)), none⟩,
 ⟨(some 57), (.iaddr 13 (.t 55) (.t 56)), none⟩,
 ⟨(some 58), (.faddr 0 (.t 57)), none⟩,
 ⟨(some 59), (.faddr 3 (.t 58)), none⟩,
 ⟨(some 60), (.faddr 1 (.t 59)), none⟩,
 ⟨(some 61), (.load 1 false (.t 60)), none⟩,
 ⟨(some 62), (.mov (.t 1)), none⟩,
 ⟨(some 63), (.bin .neq (.t 61) (.t 62)), none⟩] [])
 (.cond (.t 63)
 (.seq
 (.reg [
 ⟨(some 4), (.mov (.c (.l (.v (.int .i64 (-1)))))), none⟩] [])
 .ret)
 .skip))
 (.seq
 (.reg [
 ⟨(some 64), (.mov (.t 1)), none⟩,
 ⟨(some 65), (.bin .add (.t 64) (.c (.l (.v (.int .i64 1))))), none⟩,
 ⟨(some 1), (.mov (.t 65)), none⟩] [])
 (.seq
 (.seq
 (.reg [
 ⟨(some 66), (.mov (.t 0)), none⟩,
 ⟨(some 67), (.mov (.t 5)), none⟩,
 ⟨(some 68), (.iaddr 13 (.t 66) (.t 67)), none⟩,
 ⟨(some 69), (.faddr 0 (.t 68)), none⟩,
 ⟨(some 70), (.faddr 5 (.t 69)), none⟩,
 ⟨(some 71), (.faddr 0 (.t 70)), none⟩,
 ⟨(some 72), (.load 1 false (.t 71)), none⟩,
 ⟨(some 73), (.mov (.t 1)), none⟩,
 ⟨(some 74), (.bin .neq (.t 72) (.t 73)), none⟩] [])
 (.cond (.t 74)
 (.seq
 (.reg [
 ⟨(some 4), (.mov (.c (.l (.v (.int .i64 (-1)))))), none⟩] [])
 .ret)
 .skip))
 (.seq
 (.reg [
 ⟨(some 75), (.mov (.t 1)), none⟩,
 ⟨(some 76), (.bin .add (.t 75) (.c (.l (.v (.int .i64 1))))), none⟩,
 ⟨(some 1), (.mov (.t 76)), none⟩] [])
 (.seq
 (.seq
 (.reg [
 ⟨(some 77), (.mov (.t 0)), none⟩,
 ⟨(some 78), (.mov (.t 5)), none⟩,
 ⟨(some 79), (.iaddr 13 (.t 77) (.t 78)), none⟩,
 ⟨(some 80), (.faddr 0 (.t 79)), none⟩,
 ⟨(some 81), (.faddr 5 (.t 80)), none⟩,
 ⟨(some 82), (.faddr 1 (.t 81)), none⟩,
 ⟨(some 83), (.load 1 false (.t 82)), none⟩,
 ⟨(some 84), (.mov (.t 1)), none⟩,
 ⟨(some 85), (.bin .neq (.t 83) (.t 84)), none⟩] [])
 (.cond (.t 85)
 (.seq
 (.reg [
 ⟨(some 4), (.mov (.c (.l (.v (.int .i64 (-1)))))), none⟩] [])
 .ret)
 .skip))
 (.seq
 (.reg [
 ⟨(some 86), (.mov (.t 1)), none⟩,
 ⟨(some 87), (.bin .add (.t 86) (.c (.l (.v (.int .i64 1))))), none⟩,
 ⟨(some 1), (.mov (.t 87)), none⟩] [])
 (.seq
 (.seq
 (.reg [
 ⟨(some 88), (.mov (.t 0)), none⟩,
 ⟨(some 89), (.mov (.t 5)), none⟩,
 ⟨(some 90), (.iaddr 13 (.t 88) (.t 89)), none⟩,
 ⟨(some 91), (.faddr 0 (.t 90)), none⟩,
 ⟨(some 92), (.faddr 7 (.t 91)), none⟩,
 ⟨(some 93), (.faddr 0 (.t 92)), none⟩,
 ⟨(some 94), (.load 1 false (.t 93)), none⟩,
 ⟨(some 95), (.mov (.t 1)), none⟩,
 ⟨(some 96), (.bin .neq (.t 94) (.t 95)), none⟩] [])
 (.cond (.t 96)
 (.seq
 (.reg [
 ⟨(some 4), (.mov (.c (.l (.v (.int .i64 (-1)))))), none⟩] [])
 .ret)
 .skip))
 (.seq
 (.reg [
 ⟨(some 97), (.mov (.t 1)), none⟩,
 ⟨(some 98), (.bin .add (.t 97) (.c (.l (.v (.int .i64 1))))), none⟩,
 ⟨(some 1), (.mov (.t 98)), none⟩] [])
 (.seq
 (.seq
 (.reg [
 ⟨(some 99), (.mov (.t 0)), none⟩,
 ⟨(some 100), (.mov (.t 5)), none⟩,
 ⟨(some 101), (.iaddr 13 (.t 99) (.t 100)), none⟩,
 ⟨(some 102), (.faddr 0 (.t 101)), none⟩,
 ⟨(some 103), (.faddr 7 (.t 102)), none⟩,
 ⟨(some 104), (.faddr 1 (.t 103)), none⟩,
 ⟨(some 105), (.load 1 false (.t 104)), none⟩,
 ⟨(some 106), (.mov (.t 1)), none⟩,
 ⟨(some 107), (.bin .neq (.t 105) (.t 106)), none⟩] [])
 (.cond (.t 107)
 (.seq
 (.reg [
 ⟨(some 4), (.mov (.c (.l (.v (.int .i64 (-1)))))), none⟩] [])
 .ret)
 .skip))
 (.seq
 (.reg [
 ⟨(some 108), (.mov (.t 1)), none⟩,
 ⟨(some 109), (.bin .add (.t 108) (.c (.l (.v (.int .i64 1))))), none⟩,
 ⟨(some 1), (.mov (.t 109)), none⟩] [])
 (.seq
 (.seq
 (.reg [
 ⟨(some 110), (.mov (.t 0)), none⟩,
 ⟨(some 111), (.mov (.t 5)), none⟩,
 ⟨(some 112), (.iaddr 13 (.t 110) (.t 111)), none⟩,
 ⟨(some 113), (.faddr 0 (.t 112)), none⟩,
 ⟨(some 114), (.faddr 9 (.t 113)), none⟩,
 ⟨(some 115), (.load 1 false (.t 114)), none⟩,
 ⟨(some 116), (.mov (.t 1)), none⟩,
 ⟨(some 117), (.bin .neq (.t 115) (.t 116)), none⟩] [])
 (.cond (.t 117)
 (.seq
 (.reg [
 ⟨(some 4), (.mov (.c (.l (.v (.int .i64 (-1)))))), none⟩] [])
 .ret)
 .skip))
 (.seq
 (.reg [
 ⟨(some 118), (.mov (.t 1)), none⟩,
 ⟨(some 119), (.bin .add (.t 118) (.c (.l (.v (.int .i64 1))))), none⟩,
 ⟨(some 1), (.mov (.t 119)), none⟩] [])
 (.seq
 (.seq
 (.reg [
 ⟨(some 120), (.mov (.t 0)), none⟩,
 ⟨(some 121), (.mov (.t 5)), none⟩,
 ⟨(some 122), (.iaddr 13 (.t 120) (.t 121)), none⟩,
 ⟨(some 123), (.faddr 0 (.t 122)), none⟩,
 ⟨(some 124), (.faddr 10 (.t 123)), none⟩,
 ⟨(some 125), (.load 1 false (.t 124)), none⟩,
 ⟨(some 126), (.mov (.t 1)), none⟩,
 ⟨(some 127), (.bin .rem (.t 126) (.c (.l (.v (.int .i64 3))))), none⟩,
 ⟨(some 128), (.bin .eql (.t 127) (.c (.l (.v (.int .i64 0))))), none⟩,
 ⟨(some 129), (.eqb true (.t 125) (.t 128)), none⟩] [])
 (.cond (.t 129)
 (.seq
 (.reg [
 ⟨(some 4), (.mov (.c (.l (.v (.int .i64 (-1)))))), none⟩] [])
 .ret)
 .skip))
 (.seq
 (.reg [
 ⟨(some 130), (.mov (.t 1)), none⟩,
 ⟨(some 131), (.bin .add (.t 130) (.c (.l (.v (.int .i64 1))))), none⟩,
 ⟨(some 1), (.mov (.t 131)), none⟩] [])
 (.seq
 (.seq
 (.reg [
 ⟨(some 132), (.mov (.t 0)), none⟩,
 ⟨(some 133), (.mov (.t 5)), none⟩,
 ⟨(some 134), (.iaddr 13 (.t 132) (.t 133)), none⟩,
 ⟨(some 135), (.faddr 0 (.t 134)), none⟩,
 ⟨(some 136), (.faddr 11 (.t 135)), none⟩,
 ⟨(some 137), (.load 1 false (.t 136)), none⟩,
 ⟨(some 138), (.mov (.t 1)), none⟩,
 ⟨(some 139), (.call (.c (.l (.clos 75 []))) [(.t 138)]), none⟩,
 ⟨(some 140), (.bin .neq (.t 137) (.t 139)), none⟩] [[], [], [], [], [], [], [], [2, 3, 4, 5], []])
 (.cond (.t 140)
 (.seq
 (.reg [
 ⟨(some 4), (.mov (.c (.l (.v (.int .i64 (-1)))))), none⟩] [])
 .ret)
 .skip))
 (.seq
 (.reg [
 ⟨(some 141), (.mov (.t 1)), none⟩,
 ⟨(some 142), (.bin .add (.t 141) (.c (.l (.v (.int .i64 1))))), none⟩,
 ⟨(some 1), (.mov (.t 142)), none⟩] [])
 (.seq
 (.seq
 (.reg [
 ⟨(some 143), (.mov (.t 0)), none⟩,
 ⟨(some 144), (.mov (.t 5)), none⟩,
 ⟨(some 145), (.iaddr 13 (.t 143) (.t 144)), none⟩,
 ⟨(some 146), (.faddr 12 (.t 145)), none⟩,
 ⟨(some 147), (.load 1 false (.t 146)), none⟩,
 ⟨(some 148), (.mov (.t 1)), none⟩,
 ⟨(some 149), (.bin .neq (.t 147) (.t 148)), none⟩] [])
 (.cond (.t 149)
 (.seq
 (.reg [
 ⟨(some 4), (.mov (.c (.l (.v (.int .i64 (-1)))))), none⟩] [])
 .ret)
 .skip))
 (.reg [
 ⟨(some 150), (.mov (.t 1)), none⟩,
 ⟨(some 151), (.bin .add (.t 150) (.c (.l (.v (.int .i64 1))))), none⟩,
 ⟨(some 1), (.mov (.t 151)), none⟩] [])))))))))))))))))))))))))))
 (.reg [
 ⟨(some 10), (.mov (.t 5)), none⟩,
 ⟨(some 11), (.bin .add (.t 10) (.c (.l (.v (.int .i64 1))))), none⟩,
 ⟨(some 5), (.mov (.t 11)), none⟩] []))))))
 (.seq
 (.reg [
 ⟨(some 152), (.mov (.t 1)), none⟩,
 ⟨(some 4), (.mov (.t 152)), none⟩] [])
 .ret)))
theorem c58_eq : Try.f58.body.bind (comp Try.prog Try.f58.ntmps) = some c58 := by kernel_rfl

/-- loop.example/collabdoc/laws.szOp: params 2, results [4] -/
def c59 : ACode :=
 (.seq
 (.reg [
 ⟨(some 2), (.box (.t 0)), none⟩,
 ⟨(some 4), (.mov (.c (.l (.v (.int .i64 0))))), none⟩] [])
 (.seq
 (.reg [
 ⟨(some 5), (.mov (.t 1)), none⟩,
 ⟨(some 6), (.faddr 11 (.t 2)), none⟩,
 ⟨(some 7), (.load 1 false (.t 6)), none⟩,
 ⟨(some 8), (.slen (.t 7)), none⟩,
 ⟨(some 9), (.bin .sub (.t 5) (.t 8)), none⟩,
 ⟨(some 1), (.mov (.t 9)), none⟩] [])
 (.seq
 (.seq
 (.reg [
 ⟨(some 10), (.mov (.t 1)), none⟩,
 ⟨(some 11), (.bin .lss (.t 10) (.c (.l (.v (.int .i64 0))))), none⟩] [])
 (.cond (.t 11)
 (.seq
 (.reg [
 ⟨(some 4), (.mov (.c (.l (.v (.int .i64 (-1)))))), none⟩] [])
 .ret)
 .skip))
 (.seq
 (.reg [
 ⟨(some 12), (.mov (.t 1)), none⟩,
 ⟨(some 4), (.mov (.t 12)), none⟩] [])
 .ret))))
theorem c59_eq : Try.f59.body.bind (comp Try.prog Try.f59.ntmps) = some c59 := by kernel_rfl

/-- loop.example/collabdoc/spec.validLog: params 1, results [2] -/
def c60 : ACode :=
 (.seq
 (.reg [
 ⟨(some 2), (.mov (.c (.l (.v (.bool false))))), none⟩] [])
 (.seq
 (.seq
 (.reg [
 ⟨(some 3), (.mov (.c (.l (.v (.int .i64 0))))), none⟩] [])
 (.block 0
 (.loop
 (.seq
 (.seq
 (.reg [
 ⟨(some 4), (.mov (.t 3)), none⟩,
 ⟨(some 5), (.mov (.t 0)), none⟩,
 ⟨(some 6), (.len (.t 5)), none⟩,
 ⟨(some 7), (.bin .lss (.t 4) (.t 6)), none⟩] [])
 (.cond (.t 7)
 .skip
 (.exit 0)))
 (.seq
 (.block 1
 (.seq
 (.reg [
 ⟨(some 10), (.mov (.t 0)), none⟩,
 ⟨(some 11), (.mov (.t 3)), none⟩,
 ⟨(some 12), (.iaddr 12 (.t 10) (.t 11)), none⟩,
 ⟨(some 13), (.load 12 true (.t 12)), none⟩,
 ⟨(some 14), (.call (.c (.l (.clos 66 []))) [(.t 13)]), none⟩,
 ⟨(some 15), (.notb (.t 14)), none⟩,
 ⟨(some 16), (.mov (.t 15)), none⟩,
 ⟨(some 17), (.mov (.t 3)), (some (16, false))⟩,
 ⟨(some 18), (.bin .gtr (.t 17) (.c (.l (.v (.int .i64 0))))), (some (16, false))⟩,
 ⟨(some 19), (.mov (.t 18)), (some (16, false))⟩,
 ⟨(some 20), (.mov (.t 0)), (some (19, true))⟩,
 ⟨(some 21), (.mov (.t 3)), (some (19, true))⟩,
 ⟨(some 22), (.bin .sub (.t 21) (.c (.l (.v (.int .i64 1))))), (some (19, true))⟩,
 ⟨(some 23), (.iaddr 12 (.t 20) (.t 22)), (some (19, true))⟩,
 ⟨(some 24), (.faddr 0 (.t 23)), (some (19, true))⟩,
 ⟨(some 25), (.load 2 true (.t 24)), (some (19, true))⟩,
 ⟨(some 26), (.mov (.t 0)), (some (19, true))⟩,
 ⟨(some 27), (.mov (.t 3)), (some (19, true))⟩,
 ⟨(some 28), (.iaddr 12 (.t 26) (.t 27)), (some (19, true))⟩,
 ⟨(some 29), (.faddr 0 (.t 28)), (some (19, true))⟩,
 ⟨(some 30), (.load 2 true (.t 29)), (some (19, true))⟩,
 ⟨(some 31), (.call (.c (.l (.clos 100 []))) [(.t 25), (.t 30)]), (some (19, true))⟩,
 ⟨(some 32), (.notb (.t 31)), (some (19, true))⟩,
 ⟨(some 33), (.pick (.t 19) (.t 32) (.c (.l (.v (.bool false))))), (some (16, false))⟩,
 ⟨(some 34), (.pick (.t 16) (.c (.l (.v (.bool true)))) (.t 33)), none⟩] [])
 (.cond (.t 34)
 (.seq
 (.reg [
 ⟨(some 2), (.mov (.c (.l (.v (.bool false))))), none⟩] [])
 .ret)
 .skip)))
 (.reg [
 ⟨(some 8), (.mov (.t 3)), none⟩,
 ⟨(some 9), (.bin .add (.t 8) (.c (.l (.v (.int .i64 1))))), none⟩,
 ⟨(some 3), (.mov (.t 9)), none⟩] []))))))
 (.seq
 (.reg [
 ⟨(some 35), (.mov (.t 0)), none⟩,
 ⟨(some 36), (.len (.t 35)), none⟩,
 ⟨(some 37), (.bin .leq (.t 36) (.c (.l (.v (.int .i64 40))))), none⟩,
 ⟨(some 2), (.mov (.t 37)), none⟩] [])
 .ret)))
theorem c60_eq : Try.f60.body.bind (comp Try.prog Try.f60.ntmps) = some c60 := by kernel_rfl

/-- loop.example/collabdoc/laws.toOp: params 1, results [CELL 2] -/
def c62 : ACode :=
 (.seq
 (.reg [
 ⟨(some 1), (.box (.t 0)), none⟩,
 ⟨(some 2), (.alloc [(.v (.int .i64 0)), (.v (.int .i64 0)), (.v (.int .i64 0)), (.v (.int .i64 0)), (.v (.int .i64 0)), (.v (.int .i64 0)), (.v (.int .i64 0)), (.v (.int .i64 0)), (.v (.int .i64 0)), (.v (.int .i64 0)), (.v (.bool false)), (.v (.string ⟨#[]⟩))]), none⟩] [])
 (.seq
 (.reg [
 ⟨(some 3), (.alloc [(.v (.int .i64 0)), (.v (.int .i64 0)), (.v (.int .i64 0)), (.v (.int .i64 0)), (.v (.int .i64 0)), (.v (.int .i64 0)), (.v (.int .i64 0)), (.v (.int .i64 0)), (.v (.int .i64 0)), (.v (.int .i64 0)), (.v (.bool false)), (.v (.string ⟨#[]⟩))]), none⟩] [])
 (.seq
 (.reg [
 ⟨(some 4), (.faddr 0 (.t 1)), none⟩,
 ⟨(some 5), (.load 2 true (.t 4)), none⟩,
 ⟨(some 6), (.call (.c (.l (.clos 20 []))) [(.t 5)]), none⟩,
 ⟨(some 7), (.faddr 0 (.t 3)), none⟩,
 ⟨none, (.store 2 (.t 7) (.t 6)), none⟩] [])
 (.seq
 (.reg [
 ⟨(some 8), (.faddr 2 (.t 1)), none⟩,
 ⟨(some 9), (.load 1 false (.t 8)), none⟩,
 ⟨(some 10), (.faddr 2 (.t 3)), none⟩,
 ⟨none, (.store 1 (.t 10) (.t 9)), none⟩] [])
 (.seq
 (.reg [
 ⟨(some 11), (.faddr 3 (.t 1)), none⟩,
 ⟨(some 12), (.load 2 true (.t 11)), none⟩,
 ⟨(some 13), (.call (.c (.l (.clos 20 []))) [(.t 12)]), none⟩,
 ⟨(some 14), (.faddr 3 (.t 3)), none⟩,
 ⟨none, (.store 2 (.t 14) (.t 13)), none⟩] [])
 (.seq
 (.reg [
 ⟨(some 15), (.faddr 5 (.t 1)), none⟩,
 ⟨(some 16), (.load 2 true (.t 15)), none⟩,
 ⟨(some 17), (.call (.c (.l (.clos 20 []))) [(.t 16)]), none⟩,
 ⟨(some 18), (.faddr 5 (.t 3)), none⟩,
 ⟨none, (.store 2 (.t 18) (.t 17)), none⟩] [])
 (.seq
 (.reg [
 ⟨(some 19), (.faddr 7 (.t 1)), none⟩,
 ⟨(some 20), (.load 2 true (.t 19)), none⟩,
 ⟨(some 21), (.call (.c (.l (.clos 20 []))) [(.t 20)]), none⟩,
 ⟨(some 22), (.faddr 7 (.t 3)), none⟩,
 ⟨none, (.store 2 (.t 22) (.t 21)), none⟩] [])
 (.seq
 (.reg [
 ⟨(some 23), (.faddr 9 (.t 1)), none⟩,
 ⟨(some 24), (.load 1 false (.t 23)), none⟩,
 ⟨(some 25), (.faddr 9 (.t 3)), none⟩,
 ⟨none, (.store 1 (.t 25) (.t 24)), none⟩] [])
 (.seq
 (.reg [
 ⟨(some 26), (.faddr 10 (.t 1)), none⟩,
 ⟨(some 27), (.load 1 false (.t 26)), none⟩,
 ⟨(some 28), (.faddr 10 (.t 3)), none⟩,
 ⟨none, (.store 1 (.t 28) (.t 27)), none⟩] [])
 (.seq
 (.reg [
 ⟨(some 29), (.faddr 11 (.t 1)), none⟩,
 ⟨(some 30), (.load 1 false (.t 29)), none⟩,
 ⟨(some 31), (.faddr 11 (.t 3)), none⟩,
 ⟨none, (.store 1 (.t 31) (.t 30)), none⟩] [])
 (.seq
 (.reg [
 ⟨(some 32), (.load 12 true (.t 3)), none⟩,
 ⟨none, (.store 12 (.t 2) (.t 32)), none⟩] [])
 .ret)))))))))))
theorem c62_eq : Try.f62.body.bind (comp Try.prog Try.f62.ntmps) = some c62 := by kernel_rfl

/-- loop.example/collabdoc/spec.validOp: params 1, results [2] -/
def c66 : ACode :=
 (.seq
 (.reg [
 ⟨(some 1), (.box (.t 0)), none⟩,
 ⟨(some 2), (.mov (.c (.l (.v (.bool false))))), none⟩] [])
 (.seq
 (.seq
 (.reg [
 ⟨(some 4), (.faddr 0 (.t 1)), none⟩,
 ⟨(some 5), (.load 2 true (.t 4)), none⟩,
 ⟨(some 6), (.call (.c (.l (.clos 102 []))) [(.t 5)]), none⟩,
 ⟨(some 7), (.notb (.t 6)), none⟩] [])
 (.cond (.t 7)
 (.seq
 (.reg [
 ⟨(some 2), (.mov (.c (.l (.v (.bool false))))), none⟩] [])
 .ret)
 .skip))
 (.seq
 (.reg [
 ⟨(some 8), (.faddr 11 (.t 1)), none⟩,
 ⟨(some 9), (.load 1 false (.t 8)), none⟩,
 ⟨(some 10), (.bin .eql (.t 9) (.c (.l (.v (.string ⟨#[]⟩))))), none⟩,
 ⟨(some 3), (.mov (.t 10)), none⟩] [])
 (.seq
 (.seq
 (.reg [
 ⟨(some 11), (.faddr 2 (.t 1)), none⟩,
 ⟨(some 12), (.load 1 false (.t 11)), none⟩] [])
 (.block 0
 (.seq
 (.reg [
 ⟨(some 14), (.bin .eql (.t 12) (.c (.l (.v (.int .i64 1))))), none⟩,
 ⟨(some 13), (.mov (.t 14)), none⟩] [])
 (.cond (.t 13)
 (.seq
 (.reg [
 ⟨(some 15), (.load 12 true (.t 1)), none⟩,
 ⟨(some 16), (.faddr 3 (.t 1)), none⟩,
 ⟨(some 17), (.load 2 true (.t 16)), none⟩,
 ⟨(some 18), (.call (.c (.l (.clos 103 []))) [(.t 15), (.t 17), (.c (.l (.v (.bool true))))]), none⟩,
 ⟨(some 19), (.mov (.t 18)), none⟩,
 ⟨(some 20), (.load 12 true (.t 1)), (some (19, true))⟩,
 ⟨(some 21), (.faddr 5 (.t 1)), (some (19, true))⟩,
 ⟨(some 22), (.load 2 true (.t 21)), (some (19, true))⟩,
 ⟨(some 23), (.call (.c (.l (.clos 103 []))) [(.t 20), (.t 22), (.c (.l (.v (.bool true))))]), (some (19, true))⟩,
 ⟨(some 24), (.pick (.t 19) (.t 23) (.c (.l (.v (.bool false))))), none⟩,
 ⟨(some 25), (.mov (.t 24)), none⟩,
 ⟨(some 26), (.faddr 7 (.t 1)), (some (25, true))⟩,
 ⟨(some 27), (.load 2 true (.t 26)), (some (25, true))⟩,
 ⟨(some 28), (.call (.c (.l (.clos 104 []))) [(.t 27)]), (some (25, true))⟩,
 ⟨(some 29), (.pick (.t 25) (.t 28) (.c (.l (.v (.bool false))))), none⟩,
 ⟨(some 30), (.mov (.t 29)), none⟩,
 ⟨(some 31), (.faddr 9 (.t 1)), (some (30, true))⟩,
 ⟨(some 32), (.load 1 false (.t 31)), (some (30, true))⟩,
 ⟨(some 33), (.call (.c (.l (.clos 101 []))) [(.t 32), (.c (.l (.v (.int .i64 32)))), (.c (.l (.v (.int .i64 126))))]), (some (30, true))⟩,
 ⟨(some 34), (.pick (.t 30) (.t 33) (.c (.l (.v (.bool false))))), none⟩,
 ⟨(some 35), (.mov (.t 34)), none⟩,
 ⟨(some 36), (.faddr 10 (.t 1)), (some (35, true))⟩,
 ⟨(some 37), (.load 1 false (.t 36)), (some (35, true))⟩,
 ⟨(some 38), (.notb (.t 37)), (some (35, true))⟩,
 ⟨(some 39), (.pick (.t 35) (.t 38) (.c (.l (.v (.bool false))))), none⟩,
 ⟨(some 40), (.mov (.t 39)), none⟩,
 ⟨(some 41), (.mov (.t 3)), (some (40, true))⟩,
 ⟨(some 42), (.pick (.t 40) (.t 41) (.c (.l (.v (.bool false))))), none⟩,
 ⟨(some 2), (.mov (.t 42)), none⟩] [])
 .ret)
 (.seq
 (.reg [
 ⟨(some 44), (.bin .eql (.t 12) (.c (.l (.v (.int .i64 2))))), none⟩,
 ⟨(some 43), (.mov (.t 44)), none⟩] [])
 (.cond (.t 43)
 (.seq
 (.reg [
 ⟨(some 45), (.load 12 true (.t 1)), none⟩,
 ⟨(some 46), (.faddr 3 (.t 1)), none⟩,
 ⟨(some 47), (.load 2 true (.t 46)), none⟩,
 ⟨(some 48), (.call (.c (.l (.clos 103 []))) [(.t 45), (.t 47), (.c (.l (.v (.bool false))))]), none⟩,
 ⟨(some 49), (.mov (.t 48)), none⟩,
 ⟨(some 50), (.faddr 5 (.t 1)), (some (49, true))⟩,
 ⟨(some 51), (.load 2 true (.t 50)), (some (49, true))⟩,
 ⟨(some 52), (.call (.c (.l (.clos 104 []))) [(.t 51)]), (some (49, true))⟩,
 ⟨(some 53), (.pick (.t 49) (.t 52) (.c (.l (.v (.bool false))))), none⟩,
 ⟨(some 54), (.mov (.t 53)), none⟩,
 ⟨(some 55), (.faddr 7 (.t 1)), (some (54, true))⟩,
 ⟨(some 56), (.load 2 true (.t 55)), (some (54, true))⟩,
 ⟨(some 57), (.call (.c (.l (.clos 104 []))) [(.t 56)]), (some (54, true))⟩,
 ⟨(some 58), (.pick (.t 54) (.t 57) (.c (.l (.v (.bool false))))), none⟩,
 ⟨(some 59), (.mov (.t 58)), none⟩,
 ⟨(some 60), (.faddr 9 (.t 1)), (some (59, true))⟩,
 ⟨(some 61), (.load 1 false (.t 60)), (some (59, true))⟩,
 ⟨(some 62), (.bin .eql (.t 61) (.c (.l (.v (.int .i64 0))))), (some (59, true))⟩,
 ⟨(some 63), (.pick (.t 59) (.t 62) (.c (.l (.v (.bool false))))), none⟩,
 ⟨(some 64), (.mov (.t 63)), none⟩,
 ⟨(some 65), (.faddr 10 (.t 1)), (some (64, true))⟩,
 ⟨(some 66), (.load 1 false (.t 65)), (some (64, true))⟩,
 ⟨(some 67), (.notb (.t 66)), (some (64, true))⟩,
 ⟨(some 68), (.pick (.t 64) (.t 67) (.c (.l (.v (.bool false))))), none⟩,
 ⟨(some 69), (.mov (.t 68)), none⟩,
 ⟨(some 70), (.mov (.t 3)), (some (69, true))⟩,
 ⟨(some 71), (.pick (.t 69) (.t 70) (.c (.l (.v (.bool false))))), none⟩,
 ⟨(some 2), (.mov (.t 71)), none⟩] [])
 .ret)
 (.seq
 (.reg [
 ⟨(some 73), (.bin .eql (.t 12) (.c (.l (.v (.int .i64 3))))), none⟩,
 ⟨(some 72), (.mov (.t 73)), none⟩] [])
 (.cond (.t 72)
 (.seq
 (.reg [
 ⟨(some 74), (.load 12 true (.t 1)), none⟩,
 ⟨(some 75), (.faddr 3 (.t 1)), none⟩,
 ⟨(some 76), (.load 2 true (.t 75)), none⟩,
 ⟨(some 77), (.call (.c (.l (.clos 103 []))) [(.t 74), (.t 76), (.c (.l (.v (.bool false))))]), none⟩,
 ⟨(some 78), (.mov (.t 77)), none⟩,
 ⟨(some 79), (.load 12 true (.t 1)), (some (78, true))⟩,
 ⟨(some 80), (.faddr 5 (.t 1)), (some (78, true))⟩,
 ⟨(some 81), (.load 2 true (.t 80)), (some (78, true))⟩,
 ⟨(some 82), (.call (.c (.l (.clos 103 []))) [(.t 79), (.t 81), (.c (.l (.v (.bool false))))]), (some (78, true))⟩,
 ⟨(some 83), (.pick (.t 78) (.t 82) (.c (.l (.v (.bool false))))), none⟩,
 ⟨(some 84), (.mov (.t 83)), none⟩,
 ⟨(some 85), (.faddr 7 (.t 1)), (some (84, true))⟩,
 ⟨(some 86), (.load 2 true (.t 85)), (some (84, true))⟩,
 ⟨(some 87), (.call (.c (.l (.clos 104 []))) [(.t 86)]), (some (84, true))⟩,
 ⟨(some 88), (.pick (.t 84) (.t 87) (.c (.l (.v (.bool false))))), none⟩,
 ⟨(some 89), (.mov (.t 88)), none⟩,
 ⟨(some 90), (.faddr 9 (.t 1)), (some (89, true))⟩,
 ⟨(some 91), (.load 1 false (.t 90)), (some (89, true))⟩,
 ⟨(some 92), (.call (.c (.l (.clos 101 []))) [(.t 91), (.c (.l (.v (.int .i64 1)))), (.c (.l (.v (.int .i64 3))))]), (some (89, true))⟩,
 ⟨(some 93), (.pick (.t 89) (.t 92) (.c (.l (.v (.bool false))))), none⟩,
 ⟨(some 94), (.mov (.t 93)), none⟩,
 ⟨(some 95), (.mov (.t 3)), (some (94, true))⟩,
 ⟨(some 96), (.pick (.t 94) (.t 95) (.c (.l (.v (.bool false))))), none⟩,
 ⟨(some 2), (.mov (.t 96)), none⟩] [])
 .ret)
 (.seq
 (.reg [
 ⟨(some 98), (.bin .eql (.t 12) (.c (.l (.v (.int .i64 4))))), none⟩,
 ⟨(some 97), (.mov (.t 98)), none⟩] [])
 (.cond (.t 97)
 (.seq
 (.reg [
 ⟨(some 99), (.load 12 true (.t 1)), none⟩,
 ⟨(some 100), (.faddr 3 (.t 1)), none⟩,
 ⟨(some 101), (.load 2 true (.t 100)), none⟩,
 ⟨(some 102), (.call (.c (.l (.clos 103 []))) [(.t 99), (.t 101), (.c (.l (.v (.bool true))))]), none⟩,
 ⟨(some 103), (.mov (.t 102)), none⟩,
 ⟨(some 104), (.load 12 true (.t 1)), (some (103, true))⟩,
 ⟨(some 105), (.faddr 5 (.t 1)), (some (103, true))⟩,
 ⟨(some 106), (.load 2 true (.t 105)), (some (103, true))⟩,
 ⟨(some 107), (.call (.c (.l (.clos 103 []))) [(.t 104), (.t 106), (.c (.l (.v (.bool true))))]), (some (103, true))⟩,
 ⟨(some 108), (.pick (.t 103) (.t 107) (.c (.l (.v (.bool false))))), none⟩,
 ⟨(some 109), (.mov (.t 108)), none⟩,
 ⟨(some 110), (.faddr 7 (.t 1)), (some (109, true))⟩,
 ⟨(some 111), (.load 2 true (.t 110)), (some (109, true))⟩,
 ⟨(some 112), (.call (.c (.l (.clos 104 []))) [(.t 111)]), (some (109, true))⟩,
 ⟨(some 113), (.pick (.t 109) (.t 112) (.c (.l (.v (.bool false))))), none⟩,
 ⟨(some 114), (.mov (.t 113)), none⟩,
 ⟨(some 115), (.faddr 9 (.t 1)), (some (114, true))⟩,
 ⟨(some 116), (.load 1 false (.t 115)), (some (114, true))⟩,
 ⟨(some 117), (.call (.c (.l (.clos 101 []))) [(.t 116), (.c (.l (.v (.int .i64 1)))), (.c (.l (.v (.int .i64 4))))]), (some (114, true))⟩,
 ⟨(some 118), (.pick (.t 114) (.t 117) (.c (.l (.v (.bool false))))), none⟩,
 ⟨(some 119), (.mov (.t 118)), none⟩,
 ⟨(some 120), (.faddr 10 (.t 1)), (some (119, true))⟩,
 ⟨(some 121), (.load 1 false (.t 120)), (some (119, true))⟩,
 ⟨(some 122), (.notb (.t 121)), (some (119, true))⟩,
 ⟨(some 123), (.pick (.t 119) (.t 122) (.c (.l (.v (.bool false))))), none⟩,
 ⟨(some 124), (.mov (.t 123)), none⟩,
 ⟨(some 125), (.mov (.t 3)), (some (124, true))⟩,
 ⟨(some 126), (.pick (.t 124) (.t 125) (.c (.l (.v (.bool false))))), none⟩,
 ⟨(some 2), (.mov (.t 126)), none⟩] [])
 .ret)
 (.seq
 (.reg [
 ⟨(some 128), (.bin .eql (.t 12) (.c (.l (.v (.int .i64 5))))), none⟩,
 ⟨(some 127), (.mov (.t 128)), none⟩] [])
 (.cond (.t 127)
 (.seq
 (.reg [
 ⟨(some 129), (.load 12 true (.t 1)), none⟩,
 ⟨(some 130), (.faddr 3 (.t 1)), none⟩,
 ⟨(some 131), (.load 2 true (.t 130)), none⟩,
 ⟨(some 132), (.call (.c (.l (.clos 103 []))) [(.t 129), (.t 131), (.c (.l (.v (.bool false))))]), none⟩,
 ⟨(some 133), (.mov (.t 132)), none⟩,
 ⟨(some 134), (.load 12 true (.t 1)), (some (133, true))⟩,
 ⟨(some 135), (.faddr 5 (.t 1)), (some (133, true))⟩,
 ⟨(some 136), (.load 2 true (.t 135)), (some (133, true))⟩,
 ⟨(some 137), (.call (.c (.l (.clos 103 []))) [(.t 134), (.t 136), (.c (.l (.v (.bool true))))]), (some (133, true))⟩,
 ⟨(some 138), (.pick (.t 133) (.t 137) (.c (.l (.v (.bool false))))), none⟩,
 ⟨(some 139), (.mov (.t 138)), none⟩,
 ⟨(some 140), (.load 12 true (.t 1)), (some (139, true))⟩,
 ⟨(some 141), (.faddr 7 (.t 1)), (some (139, true))⟩,
 ⟨(some 142), (.load 2 true (.t 141)), (some (139, true))⟩,
 ⟨(some 143), (.call (.c (.l (.clos 103 []))) [(.t 140), (.t 142), (.c (.l (.v (.bool true))))]), (some (139, true))⟩,
 ⟨(some 144), (.pick (.t 139) (.t 143) (.c (.l (.v (.bool false))))), none⟩,
 ⟨(some 145), (.mov (.t 144)), none⟩,
 ⟨(some 146), (.faddr 9 (.t 1)), (some (145, true))⟩,
 ⟨(some 147), (.load 1 false (.t 146)), (some (145, true))⟩,
 ⟨(some 148), (.bin .eql (.t 147) (.c (.l (.v (.int .i64 0))))), (some (145, true))⟩,
 ⟨(some 149), (.pick (.t 145) (.t 148) (.c (.l (.v (.bool false))))), none⟩,
 ⟨(some 150), (.mov (.t 149)), none⟩,
 ⟨(some 151), (.faddr 10 (.t 1)), (some (150, true))⟩,
 ⟨(some 152), (.load 1 false (.t 151)), (some (150, true))⟩,
 ⟨(some 153), (.notb (.t 152)), (some (150, true))⟩,
 ⟨(some 154), (.pick (.t 150) (.t 153) (.c (.l (.v (.bool false))))), none⟩,
 ⟨(some 155), (.mov (.t 154)), none⟩,
 ⟨(some 156), (.mov (.t 3)), (some (155, true))⟩,
 ⟨(some 157), (.pick (.t 155) (.t 156) (.c (.l (.v (.bool false))))), none⟩,
 ⟨(some 2), (.mov (.t 157)), none⟩] [])
 .ret)
 (.seq
 (.reg [
 ⟨(some 159), (.bin .eql (.t 12) (.c (.l (.v (.int .i64 6))))), none⟩,
 ⟨(some 158), (.mov (.t 159)), none⟩] [])
 (.cond (.t 158)
 (.seq
 (.reg [
 ⟨(some 160), (.load 12 true (.t 1)), none⟩,
 ⟨(some 161), (.faddr 3 (.t 1)), none⟩,
 ⟨(some 162), (.load 2 true (.t 161)), none⟩,
 ⟨(some 163), (.call (.c (.l (.clos 103 []))) [(.t 160), (.t 162), (.c (.l (.v (.bool false))))]), none⟩,
 ⟨(some 164), (.mov (.t 163)), none⟩,
 ⟨(some 165), (.faddr 5 (.t 1)), (some (164, true))⟩,
 ⟨(some 166), (.load 2 true (.t 165)), (some (164, true))⟩,
 ⟨(some 167), (.call (.c (.l (.clos 104 []))) [(.t 166)]), (some (164, true))⟩,
 ⟨(some 168), (.pick (.t 164) (.t 167) (.c (.l (.v (.bool false))))), none⟩,
 ⟨(some 169), (.mov (.t 168)), none⟩,
 ⟨(some 170), (.faddr 7 (.t 1)), (some (169, true))⟩,
 ⟨(some 171), (.load 2 true (.t 170)), (some (169, true))⟩,
 ⟨(some 172), (.call (.c (.l (.clos 104 []))) [(.t 171)]), (some (169, true))⟩,
 ⟨(some 173), (.pick (.t 169) (.t 172) (.c (.l (.v (.bool false))))), none⟩,
 ⟨(some 174), (.mov (.t 173)), none⟩,
 ⟨(some 175), (.faddr 9 (.t 1)), (some (174, true))⟩,
 ⟨(some 176), (.load 1 false (.t 175)), (some (174, true))⟩,
 ⟨(some 177), (.call (.c (.l (.clos 101 []))) [(.t 176), (.c (.l (.v (.int .i64 1)))), (.c (.l (.v (.int .i64 4))))]), (some (174, true))⟩,
 ⟨(some 178), (.pick (.t 174) (.t 177) (.c (.l (.v (.bool false))))), none⟩,
 ⟨(some 179), (.mov (.t 178)), none⟩,
 ⟨(some 180), (.faddr 10 (.t 1)), (some (179, true))⟩,
 ⟨(some 181), (.load 1 false (.t 180)), (some (179, true))⟩,
 ⟨(some 182), (.notb (.t 181)), (some (179, true))⟩,
 ⟨(some 183), (.pick (.t 179) (.t 182) (.c (.l (.v (.bool false))))), none⟩,
 ⟨(some 184), (.mov (.t 183)), none⟩,
 ⟨(some 185), (.mov (.t 3)), (some (184, true))⟩,
 ⟨(some 186), (.pick (.t 184) (.t 185) (.c (.l (.v (.bool false))))), none⟩,
 ⟨(some 2), (.mov (.t 186)), none⟩] [])
 .ret)
 (.seq
 (.reg [
 ⟨(some 188), (.bin .eql (.t 12) (.c (.l (.v (.int .i64 7))))), none⟩,
 ⟨(some 187), (.mov (.t 188)), none⟩] [])
 (.cond (.t 187)
 (.seq
 (.reg [
 ⟨(some 189), (.load 12 true (.t 1)), none⟩,
 ⟨(some 190), (.faddr 3 (.t 1)), none⟩,
 ⟨(some 191), (.load 2 true (.t 190)), none⟩,
 ⟨(some 192), (.call (.c (.l (.clos 103 []))) [(.t 189), (.t 191), (.c (.l (.v (.bool false))))]), none⟩,
 ⟨(some 193), (.mov (.t 192)), none⟩,
 ⟨(some 194), (.faddr 5 (.t 1)), (some (193, true))⟩,
 ⟨(some 195), (.load 2 true (.t 194)), (some (193, true))⟩,
 ⟨(some 196), (.call (.c (.l (.clos 104 []))) [(.t 195)]), (some (193, true))⟩,
 ⟨(some 197), (.pick (.t 193) (.t 196) (.c (.l (.v (.bool false))))), none⟩,
 ⟨(some 198), (.mov (.t 197)), none⟩,
 ⟨(some 199), (.faddr 7 (.t 1)), (some (198, true))⟩,
 ⟨(some 200), (.load 2 true (.t 199)), (some (198, true))⟩,
 ⟨(some 201), (.call (.c (.l (.clos 104 []))) [(.t 200)]), (some (198, true))⟩,
 ⟨(some 202), (.pick (.t 198) (.t 201) (.c (.l (.v (.bool false))))), none⟩,
 ⟨(some 203), (.mov (.t 202)), none⟩,
 ⟨(some 204), (.faddr 9 (.t 1)), (some (203, true))⟩,
 ⟨(some 205), (.load 1 false (.t 204)), (some (203, true))⟩,
 ⟨(some 206), (.bin .eql (.t 205) (.c (.l (.v (.int .i64 0))))), (some (203, true))⟩,
 ⟨(some 207), (.pick (.t 203) (.t 206) (.c (.l (.v (.bool false))))), none⟩,
 ⟨(some 208), (.mov (.t 207)), none⟩,
 ⟨(some 209), (.faddr 10 (.t 1)), (some (208, true))⟩,
 ⟨(some 210), (.load 1 false (.t 209)), (some (208, true))⟩,
 ⟨(some 211), (.notb (.t 210)), (some (208, true))⟩,
 ⟨(some 212), (.pick (.t 208) (.t 211) (.c (.l (.v (.bool false))))), none⟩,
 ⟨(some 213), (.mov (.t 212)), none⟩,
 ⟨(some 214), (.mov (.t 3)), (some (213, true))⟩,
 ⟨(some 215), (.pick (.t 213) (.t 214) (.c (.l (.v (.bool false))))), none⟩,
 ⟨(some 2), (.mov (.t 215)), none⟩] [])
 .ret)
 (.seq
 (.reg [
 ⟨(some 217), (.bin .eql (.t 12) (.c (.l (.v (.int .i64 8))))), none⟩,
 ⟨(some 216), (.mov (.t 217)), none⟩] [])
 (.cond (.t 216)
 (.seq
 (.reg [
 ⟨(some 218), (.load 12 true (.t 1)), none⟩,
 ⟨(some 219), (.faddr 3 (.t 1)), none⟩,
 ⟨(some 220), (.load 2 true (.t 219)), none⟩,
 ⟨(some 221), (.call (.c (.l (.clos 103 []))) [(.t 218), (.t 220), (.c (.l (.v (.bool false))))]), none⟩,
 ⟨(some 222), (.mov (.t 221)), none⟩,
 ⟨(some 223), (.load 12 true (.t 1)), (some (222, true))⟩,
 ⟨(some 224), (.faddr 5 (.t 1)), (some (222, true))⟩,
 ⟨(some 225), (.load 2 true (.t 224)), (some (222, true))⟩,
 ⟨(some 226), (.call (.c (.l (.clos 103 []))) [(.t 223), (.t 225), (.c (.l (.v (.bool false))))]), (some (222, true))⟩,
 ⟨(some 227), (.pick (.t 222) (.t 226) (.c (.l (.v (.bool false))))), none⟩,
 ⟨(some 228), (.mov (.t 227)), none⟩,
 ⟨(some 229), (.faddr 7 (.t 1)), (some (228, true))⟩,
 ⟨(some 230), (.load 2 true (.t 229)), (some (228, true))⟩,
 ⟨(some 231), (.call (.c (.l (.clos 104 []))) [(.t 230)]), (some (228, true))⟩,
 ⟨(some 232), (.pick (.t 228) (.t 231) (.c (.l (.v (.bool false))))), none⟩,
 ⟨(some 233), (.mov (.t 232)), none⟩,
 ⟨(some 234), (.faddr 9 (.t 1)), (some (233, true))⟩,
 ⟨(some 235), (.load 1 false (.t 234)), (some (233, true))⟩,
 ⟨(some 236), (.bin .eql (.t 235) (.c (.l (.v (.int .i64 0))))), (some (233, true))⟩,
 ⟨(some 237), (.pick (.t 233) (.t 236) (.c (.l (.v (.bool false))))), none⟩,
 ⟨(some 238), (.mov (.t 237)), none⟩,
 ⟨(some 239), (.faddr 10 (.t 1)), (some (238, true))⟩,
 ⟨(some 240), (.load 1 false (.t 239)), (some (238, true))⟩,
 ⟨(some 241), (.notb (.t 240)), (some (238, true))⟩,
 ⟨(some 242), (.pick (.t 238) (.t 241) (.c (.l (.v (.bool false))))), none⟩,
 ⟨(some 243), (.mov (.t 242)), none⟩,
 ⟨(some 244), (.faddr 11 (.t 1)), (some (243, true))⟩,
 ⟨(some 245), (.load 1 false (.t 244)), (some (243, true))⟩,
 ⟨(some 246), (.call (.c (.l (.clos 105 []))) [(.t 245)]), (some (243, true))⟩,
 ⟨(some 247), (.pick (.t 243) (.t 246) (.c (.l (.v (.bool false))))), none⟩,
 ⟨(some 2), (.mov (.t 247)), none⟩] [])
 .ret)
 (.seq
 (.reg [
 ⟨(some 249), (.bin .eql (.t 12) (.c (.l (.v (.int .i64 9))))), none⟩,
 ⟨(some 248), (.mov (.t 249)), none⟩] [])
 (.cond (.t 248)
 (.seq
 (.reg [
 ⟨(some 250), (.load 12 true (.t 1)), none⟩,
 ⟨(some 251), (.faddr 3 (.t 1)), none⟩,
 ⟨(some 252), (.load 2 true (.t 251)), none⟩,
 ⟨(some 253), (.call (.c (.l (.clos 103 []))) [(.t 250), (.t 252), (.c (.l (.v (.bool false))))]), none⟩,
 ⟨(some 254), (.mov (.t 253)), none⟩,
 ⟨(some 255), (.faddr 5 (.t 1)), (some (254, true))⟩,
 ⟨(some 256), (.load 2 true (.t 255)), (some (254, true))⟩,
 ⟨(some 257), (.call (.c (.l (.clos 104 []))) [(.t 256)]), (some (254, true))⟩,
 ⟨(some 258), (.pick (.t 254) (.t 257) (.c (.l (.v (.bool false))))), none⟩,
 ⟨(some 259), (.mov (.t 258)), none⟩,
 ⟨(some 260), (.faddr 7 (.t 1)), (some (259, true))⟩,
 ⟨(some 261), (.load 2 true (.t 260)), (some (259, true))⟩,
 ⟨(some 262), (.call (.c (.l (.clos 104 []))) [(.t 261)]), (some (259, true))⟩,
 ⟨(some 263), (.pick (.t 259) (.t 262) (.c (.l (.v (.bool false))))), none⟩,
 ⟨(some 264), (.mov (.t 263)), none⟩,
 ⟨(some 265), (.faddr 9 (.t 1)), (some (264, true))⟩,
 ⟨(some 266), (.load 1 false (.t 265)), (some (264, true))⟩,
 ⟨(some 267), (.bin .eql (.t 266) (.c (.l (.v (.int .i64 0))))), (some (264, true))⟩,
 ⟨(some 268), (.pick (.t 264) (.t 267) (.c (.l (.v (.bool false))))), none⟩,
 ⟨(some 269), (.mov (.t 268)), none⟩,
 ⟨(some 270), (.faddr 10 (.t 1)), (some (269, true))⟩,
 ⟨(some 271), (.load 1 false (.t 270)), (some (269, true))⟩,
 ⟨(some 272), (.notb (.t 271)), (some (269, true))⟩,
 ⟨(some 273), (.pick (.t 269) (.t 272) (.c (.l (.v (.bool false))))), none⟩,
 ⟨(some 274), (.mov (.t 273)), none⟩,
 ⟨(some 275), (.faddr 11 (.t 1)), (some (274, true))⟩,
 ⟨(some 276), (.load 1 false (.t 275)), (some (274, true))⟩,
 ⟨(some 277), (.call (.c (.l (.clos 105 []))) [(.t 276)]), (some (274, true))⟩,
 ⟨(some 278), (.pick (.t 274) (.t 277) (.c (.l (.v (.bool false))))), none⟩,
 ⟨(some 2), (.mov (.t 278)), none⟩] [])
 .ret)
 (.seq
 (.reg [
 ⟨(some 280), (.bin .eql (.t 12) (.c (.l (.v (.int .i64 10))))), none⟩,
 ⟨(some 279), (.mov (.t 280)), none⟩] [])
 (.cond (.t 279)
 (.seq
 (.reg [
 ⟨(some 281), (.load 12 true (.t 1)), none⟩,
 ⟨(some 282), (.faddr 3 (.t 1)), none⟩,
 ⟨(some 283), (.load 2 true (.t 282)), none⟩,
 ⟨(some 284), (.call (.c (.l (.clos 103 []))) [(.t 281), (.t 283), (.c (.l (.v (.bool false))))]), none⟩,
 ⟨(some 285), (.mov (.t 284)), none⟩,
 ⟨(some 286), (.faddr 5 (.t 1)), (some (285, true))⟩,
 ⟨(some 287), (.load 2 true (.t 286)), (some (285, true))⟩,
 ⟨(some 288), (.call (.c (.l (.clos 104 []))) [(.t 287)]), (some (285, true))⟩,
 ⟨(some 289), (.pick (.t 285) (.t 288) (.c (.l (.v (.bool false))))), none⟩,
 ⟨(some 290), (.mov (.t 289)), none⟩,
 ⟨(some 291), (.faddr 7 (.t 1)), (some (290, true))⟩,
 ⟨(some 292), (.load 2 true (.t 291)), (some (290, true))⟩,
 ⟨(some 293), (.call (.c (.l (.clos 104 []))) [(.t 292)]), (some (290, true))⟩,
 ⟨(some 294), (.pick (.t 290) (.t 293) (.c (.l (.v (.bool false))))), none⟩,
 ⟨(some 295), (.mov (.t 294)), none⟩,
 ⟨(some 296), (.faddr 9 (.t 1)), (some (295, true))⟩,
 ⟨(some 297), (.load 1 false (.t 296)), (some (295, true))⟩,
 ⟨(some 298), (.bin .eql (.t 297) (.c (.l (.v (.int .i64 0))))), (some (295, true))⟩,
 ⟨(some 299), (.pick (.t 295) (.t 298) (.c (.l (.v (.bool false))))), none⟩,
 ⟨(some 300), (.mov (.t 299)), none⟩,
 ⟨(some 301), (.mov (.t 3)), (some (300, true))⟩,
 ⟨(some 302), (.pick (.t 300) (.t 301) (.c (.l (.v (.bool false))))), none⟩,
 ⟨(some 2), (.mov (.t 302)), none⟩] [])
 .ret)
 .skip))))))))))))))))))))))
 (.seq
 (.reg [
 ⟨(some 2), (.mov (.c (.l (.v (.bool false))))), none⟩] [])
 .ret)))))
theorem c66_eq : Try.f66.body.bind (comp Try.prog Try.f66.ntmps) = some c66 := by kernel_rfl

/-- loop.example/collabdoc/laws.szMessageS: params 2, results [4] -/
def c70 : ACode :=
 (.seq
 (.reg [
 ⟨(some 4), (.mov (.c (.l (.v (.int .i64 0))))), none⟩] [])
 (.seq
 (.reg [
 ⟨(some 6), (.mov (.t 1)), none⟩,
 ⟨(some 7), (.mov (.t 0)), none⟩,
 ⟨(some 8), (.len (.t 7)), none⟩,
 ⟨(some 9), (.bin .sub (.t 6) (.t 8)), none⟩,
 ⟨(some 1), (.mov (.t 9)), none⟩] [])
 (.seq
 (.seq
 (.reg [
 ⟨(some 10), (.mov (.t 1)), none⟩,
 ⟨(some 11), (.bin .lss (.t 10) (.c (.l (.v (.int .i64 0))))), none⟩] [])
 (.cond (.t 11)
 (.seq
 (.reg [
 ⟨(some 4), (.mov (.c (.l (.v (.int .i64 (-1)))))), none⟩] [])
 .ret)
 .skip))
 (.seq
 (.seq
 (.reg [
 ⟨(some 5), (.mov (.c (.l (.v (.int .i64 0))))), none⟩] [])
 (.block 0
 (.loop
 (.seq
 (.seq
 (.reg [
 ⟨(some 12), (.mov (.t 5)), none⟩,
 ⟨(some 13), (.mov (.t 0)), none⟩,
 ⟨(some 14), (.len (.t 13)), none⟩,
 ⟨(some 15), (.bin .lss (.t 12) (.t 14)), none⟩] [])
 (.cond (.t 15)
 .skip
 (.exit 0)))
 (.seq
 (.block 1
 (.seq
 (.reg [
 ⟨(some 18), (.mov (.t 0)), none⟩,
 ⟨(some 19), (.mov (.t 5)), none⟩,
 ⟨(some 20), (.iaddr 13 (.t 18) (.t 19)), none⟩,
 ⟨(some 21), (.load 13 true (.t 20)), none⟩,
 ⟨(some 22), (.mov (.t 1)), none⟩,
 ⟨(some 23), (.call (.c (.l (.clos 106 []))) [(.t 21), (.t 22)]), none⟩,
 ⟨(some 1), (.mov (.t 23)), none⟩] [])
 (.seq
 (.reg [
 ⟨(some 24), (.mov (.t 1)), none⟩,
 ⟨(some 25), (.bin .lss (.t 24) (.c (.l (.v (.int .i64 0))))), none⟩] [])
 (.cond (.t 25)
 (.seq
 (.reg [
 ⟨(some 4), (.mov (.c (.l (.v (.int .i64 (-1)))))), none⟩] [])
 .ret)
 .skip))))
 (.reg [
 ⟨(some 16), (.mov (.t 5)), none⟩,
 ⟨(some 17), (.bin .add (.t 16) (.c (.l (.v (.int .i64 1))))), none⟩,
 ⟨(some 5), (.mov (.t 17)), none⟩] []))))))
 (.seq
 (.reg [
 ⟨(some 26), (.mov (.t 1)), none⟩,
 ⟨(some 4), (.mov (.t 26)), none⟩] [])
 .ret)))))
theorem c70_eq : Try.f70.body.bind (comp Try.prog Try.f70.ntmps) = some c70 := by kernel_rfl

/-- loop.example/collabdoc/spec.validReplica: params 1, results [2] -/
def c71 : ACode :=
 (.seq
 (.reg [
 ⟨(some 1), (.box (.t 0)), none⟩,
 ⟨(some 2), (.mov (.c (.l (.v (.bool false))))), none⟩] [])
 (.seq
 (.seq
 (.reg [
 ⟨(some 3), (.mov (.c (.l (.v (.int .i64 0))))), none⟩] [])
 (.block 0
 (.loop
 (.seq
 (.seq
 (.reg [
 ⟨(some 4), (.mov (.t 3)), none⟩,
 ⟨(some 5), (.faddr 2 (.t 1)), none⟩,
 ⟨(some 6), (.load 1 false (.t 5)), none⟩,
 ⟨(some 7), (.len (.t 6)), none⟩,
 ⟨(some 8), (.bin .lss (.t 4) (.t 7)), none⟩] [])
 (.cond (.t 8)
 .skip
 (.exit 0)))
 (.seq
 (.block 1
 (.seq
 (.reg [
 ⟨(some 11), (.faddr 2 (.t 1)), none⟩,
 ⟨(some 12), (.load 1 false (.t 11)), none⟩,
 ⟨(some 13), (.mov (.t 3)), none⟩,
 ⟨(some 14), (.iaddr 13 (.t 12) (.t 13)), none⟩,
 ⟨(some 15), (.load 13 true (.t 14)), none⟩,
 ⟨(some 16), (.call (.c (.l (.clos 107 []))) [(.t 15)]), none⟩,
 ⟨(some 17), (.notb (.t 16)), none⟩,
 ⟨(some 18), (.mov (.t 17)), none⟩,
 ⟨(some 19), (.mov (.t 3)), (some (18, false))⟩,
 ⟨(some 20), (.bin .gtr (.t 19) (.c (.l (.v (.int .i64 0))))), (some (18, false))⟩,
 ⟨(some 21), (.mov (.t 20)), (some (18, false))⟩,
 ⟨(some 22), (.faddr 2 (.t 1)), (some (21, true))⟩,
 ⟨(some 23), (.load 1 false (.t 22)), (some (21, true))⟩,
 ⟨(some 24), (.mov (.t 3)), (some (21, true))⟩,
 ⟨(some 25), (.bin .sub (.t 24) (.c (.l (.v (.int .i64 1))))), (some (21, true))⟩,
 ⟨(some 26), (.iaddr 13 (.t 23) (.t 25)), (some (21, true))⟩,
 ⟨(some 27), (.faddr 0 (.t 26)), (some (21, true))⟩,
 ⟨(some 28), (.faddr 0 (.t 27)), (some (21, true))⟩,
 ⟨(some 29), (.load 2 true (.t 28)), (some (21, true))⟩,
 ⟨(some 30), (.faddr 2 (.t 1)), (some (21, true))⟩,
 ⟨(some 31), (.load 1 false (.t 30)), (some (21, true))⟩,
 ⟨(some 32), (.mov (.t 3)), (some (21, true))⟩,
 ⟨(some 33), (.iaddr 13 (.t 31) (.t 32)), (some (21, true))⟩,
 ⟨(some 34), (.faddr 0 (.t 33)), (some (21, true))⟩,
 ⟨(some 35), (.faddr 0 (.t 34)), (some (21, true))⟩,
 ⟨(some 36), (.load 2 true (.t 35)), (some (21, true))⟩,
 ⟨(some 37), (.call (.c (.l (.clos 100 []))) [(.t 29), (.t 36)]), (some (21, true))⟩,
 ⟨(some 38), (.notb (.t 37)), (some (21, true))⟩,
 ⟨(some 39), (.pick (.t 21) (.t 38) (.c (.l (.v (.bool false))))), (some (18, false))⟩,
 ⟨(some 40), (.pick (.t 18) (.c (.l (.v (.bool true)))) (.t 39)), none⟩] [])
 (.cond (.t 40)
 (.seq
 (.reg [
 ⟨(some 2), (.mov (.c (.l (.v (.bool false))))), none⟩] [])
 .ret)
 .skip)))
 (.reg [
 ⟨(some 9), (.mov (.t 3)), none⟩,
 ⟨(some 10), (.bin .add (.t 9) (.c (.l (.v (.int .i64 1))))), none⟩,
 ⟨(some 3), (.mov (.t 10)), none⟩] []))))))
 (.seq
 (.reg [
 ⟨(some 41), (.faddr 0 (.t 1)), none⟩,
 ⟨(some 42), (.load 1 false (.t 41)), none⟩,
 ⟨(some 43), (.call (.c (.l (.clos 101 []))) [(.t 42), (.c (.l (.v (.int .i64 0)))), (.c (.l (.v (.int .i64 2))))]), none⟩,
 ⟨(some 44), (.mov (.t 43)), none⟩,
 ⟨(some 45), (.faddr 1 (.t 1)), (some (44, true))⟩,
 ⟨(some 46), (.load 1 false (.t 45)), (some (44, true))⟩,
 ⟨(some 47), (.call (.c (.l (.clos 60 []))) [(.t 46)]), (some (44, true))⟩,
 ⟨(some 48), (.pick (.t 44) (.t 47) (.c (.l (.v (.bool false))))), none⟩,
 ⟨(some 49), (.mov (.t 48)), none⟩,
 ⟨(some 50), (.faddr 2 (.t 1)), (some (49, true))⟩,
 ⟨(some 51), (.load 1 false (.t 50)), (some (49, true))⟩,
 ⟨(some 52), (.len (.t 51)), (some (49, true))⟩,
 ⟨(some 53), (.bin .leq (.t 52) (.c (.l (.v (.int .i64 20))))), (some (49, true))⟩,
 ⟨(some 54), (.pick (.t 49) (.t 53) (.c (.l (.v (.bool false))))), none⟩,
 ⟨(some 2), (.mov (.t 54)), none⟩] [])
 .ret)))
theorem c71_eq : Try.f71.body.bind (comp Try.prog Try.f71.ntmps) = some c71 := by kernel_rfl

/-- loop.example/collabdoc/laws.toMessageS: params 1, results [2] -/
def c72 : ACode :=
 (.seq
 (.reg [
 ⟨(some 2), (.mov (.c (.l .emp))), none⟩] [])
 (.seq
 (.reg [
 ⟨(some 5), (.mov (.t 0)), none⟩,
 ⟨(some 6), (.len (.t 5)), none⟩,
 ⟨(some 7), (.mk 112 [(.v (.int .i64 0)), (.v (.int .i64 0)), (.v (.int .i64 0)), (.v (.int .i64 0)), (.v (.int .i64 0)), (.v (.int .i64 0)), (.v (.int .i64 0)), (.v (.int .i64 0)), (.v (.int .i64 0)), (.v (.int .i64 0)), (.v (.bool false)), (.v (.string ⟨#[]⟩)), (.v (.int .i64 0))] (.t 6) (.t 6)), none⟩,
 ⟨(some 3), (.mov (.t 7)), none⟩] [])
 (.seq
 (.seq
 (.reg [
 ⟨(some 4), (.mov (.c (.l (.v (.int .i64 0))))), none⟩] [])
 (.block 0
 (.loop
 (.seq
 (.seq
 (.reg [
 ⟨(some 8), (.mov (.t 4)), none⟩,
 ⟨(some 9), (.mov (.t 0)), none⟩,
 ⟨(some 10), (.len (.t 9)), none⟩,
 ⟨(some 11), (.bin .lss (.t 8) (.t 10)), none⟩] [])
 (.cond (.t 11)
 .skip
 (.exit 0)))
 (.seq
 (.block 1
 (.reg [
 ⟨(some 14), (.mov (.t 3)), none⟩,
 ⟨(some 15), (.mov (.t 4)), none⟩,
 ⟨(some 16), (.mov (.t 0)), none⟩,
 ⟨(some 17), (.mov (.t 4)), none⟩,
 ⟨(some 18), (.iaddr 13 (.t 16) (.t 17)), none⟩,
 ⟨(some 19), (.load 13 true (.t 18)), none⟩,
 ⟨(some 20), (.call (.c (.l (.clos 108 []))) [(.t 19)]), none⟩,
 ⟨(some 21), (.iaddr 13 (.t 14) (.t 15)), none⟩,
 ⟨none, (.store 13 (.t 21) (.t 20)), none⟩] []))
 (.reg [
 ⟨(some 12), (.mov (.t 4)), none⟩,
 ⟨(some 13), (.bin .add (.t 12) (.c (.l (.v (.int .i64 1))))), none⟩,
 ⟨(some 4), (.mov (.t 13)), none⟩] []))))))
 (.seq
 (.reg [
 ⟨(some 22), (.mov (.t 3)), none⟩,
 ⟨(some 2), (.mov (.t 22)), none⟩] [])
 .ret))))
theorem c72_eq : Try.f72.body.bind (comp Try.prog Try.f72.ntmps) = some c72 := by kernel_rfl

/-- loop.example/collabdoc/impl.isAuthor: params 1, results [2] -/
def c73 : ACode :=
 (.seq
 (.reg [
 ⟨(some 2), (.mov (.c (.l (.v (.bool false))))), none⟩] [])
 (.seq
 (.reg [
 ⟨(some 3), (.mov (.t 0)), none⟩,
 ⟨(some 4), (.bin .geq (.t 3) (.c (.l (.v (.int .i64 0))))), none⟩,
 ⟨(some 5), (.mov (.t 4)), none⟩,
 ⟨(some 6), (.mov (.t 0)), (some (5, true))⟩,
 ⟨(some 7), (.bin .lss (.t 6) (.c (.l (.v (.int .i64 3))))), (some (5, true))⟩,
 ⟨(some 8), (.pick (.t 5) (.t 7) (.c (.l (.v (.bool false))))), none⟩,
 ⟨(some 2), (.mov (.t 8)), none⟩] [])
 .ret))
theorem c73_eq : Try.f73.body.bind (comp Try.prog Try.f73.ntmps) = some c73 := by kernel_rfl

/-- loop.example/collabdoc/impl.validMessage: params 1, results [2] -/
def c74 : ACode :=
 (.seq
 (.reg [
 ⟨(some 1), (.box (.t 0)), none⟩,
 ⟨(some 2), (.mov (.c (.l (.v (.bool false))))), none⟩] [])
 (.seq
 (.reg [
 ⟨(some 3), (.faddr 0 (.t 1)), none⟩,
 ⟨(some 4), (.load 12 true (.t 3)), none⟩,
 ⟨(some 5), (.call (.c (.l (.clos 77 []))) [(.t 4)]), none⟩,
 ⟨(some 6), (.mov (.t 5)), none⟩,
 ⟨(some 7), (.faddr 12 (.t 1)), (some (6, true))⟩,
 ⟨(some 8), (.load 1 false (.t 7)), (some (6, true))⟩,
 ⟨(some 9), (.bin .geq (.t 8) (.c (.l (.v (.int .i64 0))))), (some (6, true))⟩,
 ⟨(some 10), (.pick (.t 6) (.t 9) (.c (.l (.v (.bool false))))), none⟩,
 ⟨(some 11), (.mov (.t 10)), none⟩,
 ⟨(some 12), (.faddr 12 (.t 1)), (some (11, true))⟩,
 ⟨(some 13), (.load 1 false (.t 12)), (some (11, true))⟩,
 ⟨(some 14), (.faddr 0 (.t 1)), (some (11, true))⟩,
 ⟨(some 15), (.faddr 0 (.t 14)), (some (11, true))⟩,
 ⟨(some 16), (.faddr 0 (.t 15)), (some (11, true))⟩,
 ⟨(some 17), (.load 1 false (.t 16)), (some (11, true))⟩,
 ⟨(some 18), (.bin .lss (.t 13) (.t 17)), (some (11, true))⟩,
 ⟨(some 19), (.pick (.t 11) (.t 18) (.c (.l (.v (.bool false))))), none⟩,
 ⟨(some 2), (.mov (.t 19)), none⟩] [])
 .ret))
theorem c74_eq : Try.f74.body.bind (comp Try.prog Try.f74.ntmps) = some c74 := by kernel_rfl

/-- loop.example/collabdoc/laws.markText: params 1, results [2] -/
def c75 : ACode :=
 (.seq
 (.reg [
 ⟨(some 2), (.mov (.c (.l (.v (.string ⟨#[]⟩))))), none⟩] [])
 (.seq
 (.seq
 (.reg [
 ⟨(some 4), (.mov (.t 0)), none⟩,
 ⟨(some 5), (.bin .leq (.t 4) (.c (.l (.v (.int .i64 0))))), none⟩] [])
 (.cond (.t 5)
 (.seq
 (.reg [
 ⟨(some 2), (.mov (.c (.l (.v (.string ⟨#[109, 48]⟩))))), none⟩] [])
 .ret)
 .skip))
 (.seq
 (.reg [
 ⟨(some 3), (.mov (.c (.l (.v (.string ⟨#[]⟩))))), none⟩] [])
 (.seq
 (.block 0
 (.loop
 (.seq
 (.seq
 (.reg [
 ⟨(some 6), (.mov (.t 0)), none⟩,
 ⟨(some 7), (.bin .gtr (.t 6) (.c (.l (.v (.int .i64 0))))), none⟩] [])
 (.cond (.t 7)
 .skip
 (.exit 0)))
 (.block 1
 (.seq
 (.reg [
 ⟨(some 8), (.mov (.t 0)), none⟩,
 ⟨(some 9), (.bin .rem (.t 8) (.c (.l (.v (.int .i64 10))))), none⟩,
 ⟨(some 10), (.bin .add (.c (.l (.v (.int .i64 48)))) (.t 9)), none⟩,
 ⟨(some 11), (.conv .u8 (.t 10)), none⟩,
 ⟨(some 12), (.bsl 1 [(.v (.int .u8 0))] [(0, (.t 11))]), none⟩,
 ⟨(some 13), (.bstr (.t 12)), none⟩,
 ⟨(some 14), (.mov (.t 3)), none⟩,
 ⟨(some 15), (.bin .add (.t 13) (.t 14)), none⟩,
 ⟨(some 3), (.mov (.t 15)), none⟩] [])
 (.reg [
 ⟨(some 16), (.mov (.t 0)), none⟩,
 ⟨(some 17), (.bin .quo (.t 16) (.c (.l (.v (.int .i64 10))))), none⟩,
 ⟨(some 0), (.mov (.t 17)), none⟩] []))))))
 (.seq
 (.reg [
 ⟨(some 18), (.mov (.t 3)), none⟩,
 ⟨(some 19), (.bin .add (.c (.l (.v (.string ⟨#[109]⟩)))) (.t 18)), none⟩,
 ⟨(some 2), (.mov (.t 19)), none⟩] [])
 .ret)))))
theorem c75_eq : Try.f75.body.bind (comp Try.prog Try.f75.ntmps) = some c75 := by kernel_rfl

/-- loop.example/collabdoc/impl.ValidOp: params 1, results [2] -/
def c77 : ACode :=
 (.seq
 (.reg [
 ⟨(some 1), (.box (.t 0)), none⟩,
 ⟨(some 2), (.mov (.c (.l (.v (.bool false))))), none⟩] [])
 (.seq
 (.reg [
 ⟨(some 6), (.fn 110 [(.t 1)]), none⟩,
 ⟨(some 3), (.alloc [(.v .nilFunc)]), none⟩,
 ⟨none, (.store 1 (.t 3) (.t 6)), none⟩] [])
 (.seq
 (.reg [
 ⟨(some 7), (.fn 112 [(.t 3)]), none⟩,
 ⟨(some 4), (.mov (.t 7)), none⟩] [])
 (.seq
 (.seq
 (.reg [
 ⟨(some 8), (.faddr 0 (.t 1)), none⟩,
 ⟨(some 9), (.load 2 true (.t 8)), none⟩,
 ⟨(some 10), (.call (.c (.l (.clos 111 []))) [(.t 9)]), none⟩,
 ⟨(some 11), (.notb (.t 10)), none⟩] [])
 (.cond (.t 11)
 (.seq
 (.reg [
 ⟨(some 2), (.mov (.c (.l (.v (.bool false))))), none⟩] [])
 .ret)
 .skip))
 (.seq
 (.reg [
 ⟨(some 12), (.faddr 0 (.t 1)), none⟩,
 ⟨(some 13), (.load 2 true (.t 12)), none⟩,
 ⟨(some 14), (.faddr 2 (.t 1)), none⟩,
 ⟨(some 15), (.load 1 false (.t 14)), none⟩,
 ⟨(some 16), (.faddr 3 (.t 1)), none⟩,
 ⟨(some 17), (.load 2 true (.t 16)), none⟩,
 ⟨(some 18), (.build [(.v (.int .i64 0)), (.v (.int .i64 0)), (.v (.int .i64 0)), (.v (.int .i64 0)), (.v (.int .i64 0)), (.v (.int .i64 0)), (.v (.int .i64 0)), (.v (.int .i64 0)), (.v (.int .i64 0)), (.v (.int .i64 0)), (.v (.bool false)), (.v (.string ⟨#[]⟩))] [(0, 2, (.t 13)), (2, 1, (.t 15)), (3, 2, (.t 17))]), none⟩,
 ⟨(some 5), (.alloc [(.v (.int .i64 0)), (.v (.int .i64 0)), (.v (.int .i64 0)), (.v (.int .i64 0)), (.v (.int .i64 0)), (.v (.int .i64 0)), (.v (.int .i64 0)), (.v (.int .i64 0)), (.v (.int .i64 0)), (.v (.int .i64 0)), (.v (.bool false)), (.v (.string ⟨#[]⟩))]), none⟩,
 ⟨none, (.store 12 (.t 5) (.t 18)), none⟩] [])
 (.seq
 (.seq
 (.reg [
 ⟨(some 19), (.faddr 2 (.t 1)), none⟩,
 ⟨(some 20), (.load 1 false (.t 19)), none⟩] [])
 (.block 0
 (.seq
 (.reg [
 ⟨(some 22), (.bin .eql (.t 20) (.c (.l (.v (.int .i64 1))))), none⟩,
 ⟨(some 21), (.mov (.t 22)), none⟩] [])
 (.cond (.t 21)
 (.seq
 (.reg [
 ⟨(some 23), (.faddr 5 (.t 1)), none⟩,
 ⟨(some 24), (.load 2 true (.t 23)), none⟩,
 ⟨(some 25), (.faddr 9 (.t 1)), none⟩,
 ⟨(some 26), (.load 1 false (.t 25)), none⟩,
 ⟨(some 27), (.faddr 5 (.t 5)), none⟩,
 ⟨none, (.store 2 (.t 27) (.t 24)), none⟩,
 ⟨(some 28), (.faddr 9 (.t 5)), none⟩,
 ⟨none, (.store 1 (.t 28) (.t 26)), none⟩] [[], [], [], [], [], [2, 3], [], []])
 (.seq
 (.reg [
 ⟨(some 29), (.load 12 true (.t 1)), none⟩,
 ⟨(some 30), (.load 12 true (.t 5)), none⟩,
 ⟨(some 31), (.eqs false [(.i .i64), (.i .i64), (.i .i64), (.i .i64), (.i .i64), (.i .i64), (.i .i64), (.i .i64), (.i .i64), (.i .i64), .b, .s] (.t 29) (.t 30)), none⟩,
 ⟨(some 32), (.mov (.t 31)), none⟩,
 ⟨(some 33), (.mov (.t 4)), (some (32, true))⟩,
 ⟨(some 34), (.faddr 3 (.t 1)), (some (32, true))⟩,
 ⟨(some 35), (.load 2 true (.t 34)), (some (32, true))⟩,
 ⟨(some 36), (.call (.t 33) [(.t 35)]), (some (32, true))⟩,
 ⟨(some 37), (.pick (.t 32) (.t 36) (.c (.l (.v (.bool false))))), none⟩,
 ⟨(some 38), (.mov (.t 37)), none⟩,
 ⟨(some 39), (.mov (.t 4)), (some (38, true))⟩,
 ⟨(some 40), (.faddr 5 (.t 1)), (some (38, true))⟩,
 ⟨(some 41), (.load 2 true (.t 40)), (some (38, true))⟩,
 ⟨(some 42), (.call (.t 39) [(.t 41)]), (some (38, true))⟩,
 ⟨(some 43), (.pick (.t 38) (.t 42) (.c (.l (.v (.bool false))))), none⟩,
 ⟨(some 44), (.mov (.t 43)), none⟩,
 ⟨(some 45), (.faddr 9 (.t 1)), (some (44, true))⟩,
 ⟨(some 46), (.load 1 false (.t 45)), (some (44, true))⟩,
 ⟨(some 47), (.bin .geq (.t 46) (.c (.l (.v (.int .i64 32))))), (some (44, true))⟩,
 ⟨(some 48), (.pick (.t 44) (.t 47) (.c (.l (.v (.bool false))))), none⟩,
 ⟨(some 49), (.mov (.t 48)), none⟩,
 ⟨(some 50), (.faddr 9 (.t 1)), (some (49, true))⟩,
 ⟨(some 51), (.load 1 false (.t 50)), (some (49, true))⟩,
 ⟨(some 52), (.bin .leq (.t 51) (.c (.l (.v (.int .i64 126))))), (some (49, true))⟩,
 ⟨(some 53), (.pick (.t 49) (.t 52) (.c (.l (.v (.bool false))))), none⟩,
 ⟨(some 2), (.mov (.t 53)), none⟩] [])
 .ret))
 (.seq
 (.seq
 (.reg [
 ⟨(some 55), (.bin .eql (.t 20) (.c (.l (.v (.int .i64 2))))), none⟩,
 ⟨(some 54), (.mov (.t 55)), none⟩] [])
 (.cond (.t 54)
 .skip
 (.reg [
 ⟨(some 56), (.bin .eql (.t 20) (.c (.l (.v (.int .i64 7))))), none⟩,
 ⟨(some 54), (.mov (.t 56)), none⟩] [])))
 (.cond (.t 54)
 (.seq
 (.reg [
 ⟨(some 57), (.load 12 true (.t 1)), none⟩,
 ⟨(some 58), (.load 12 true (.t 5)), none⟩,
 ⟨(some 59), (.eqs false [(.i .i64), (.i .i64), (.i .i64), (.i .i64), (.i .i64), (.i .i64), (.i .i64), (.i .i64), (.i .i64), (.i .i64), .b, .s] (.t 57) (.t 58)), none⟩,
 ⟨(some 60), (.mov (.t 59)), none⟩,
 ⟨(some 61), (.load 1 false (.t 3)), (some (60, true))⟩,
 ⟨(some 62), (.faddr 3 (.t 1)), (some (60, true))⟩,
 ⟨(some 63), (.load 2 true (.t 62)), (some (60, true))⟩,
 ⟨(some 64), (.call (.t 61) [(.t 63)]), (some (60, true))⟩,
 ⟨(some 65), (.pick (.t 60) (.t 64) (.c (.l (.v (.bool false))))), none⟩,
 ⟨(some 2), (.mov (.t 65)), none⟩] [])
 .ret)
 (.seq
 (.reg [
 ⟨(some 67), (.bin .eql (.t 20) (.c (.l (.v (.int .i64 3))))), none⟩,
 ⟨(some 66), (.mov (.t 67)), none⟩] [])
 (.cond (.t 66)
 (.seq
 (.reg [
 ⟨(some 68), (.faddr 5 (.t 1)), none⟩,
 ⟨(some 69), (.load 2 true (.t 68)), none⟩,
 ⟨(some 70), (.faddr 9 (.t 1)), none⟩,
 ⟨(some 71), (.load 1 false (.t 70)), none⟩,
 ⟨(some 72), (.faddr 10 (.t 1)), none⟩,
 ⟨(some 73), (.load 1 false (.t 72)), none⟩,
 ⟨(some 74), (.faddr 5 (.t 5)), none⟩,
 ⟨none, (.store 2 (.t 74) (.t 69)), none⟩,
 ⟨(some 75), (.faddr 9 (.t 5)), none⟩,
 ⟨none, (.store 1 (.t 75) (.t 71)), none⟩,
 ⟨(some 76), (.faddr 10 (.t 5)), none⟩,
 ⟨none, (.store 1 (.t 76) (.t 73)), none⟩] [[], [], [], [], [], [], [], [2, 3, 4, 5], [], [4, 5], [], []])
 (.seq
 (.reg [
 ⟨(some 77), (.load 12 true (.t 1)), none⟩,
 ⟨(some 78), (.load 12 true (.t 5)), none⟩,
 ⟨(some 79), (.eqs false [(.i .i64), (.i .i64), (.i .i64), (.i .i64), (.i .i64), (.i .i64), (.i .i64), (.i .i64), (.i .i64), (.i .i64), .b, .s] (.t 77) (.t 78)), none⟩,
 ⟨(some 80), (.mov (.t 79)), none⟩,
 ⟨(some 81), (.load 1 false (.t 3)), (some (80, true))⟩,
 ⟨(some 82), (.faddr 3 (.t 1)), (some (80, true))⟩,
 ⟨(some 83), (.load 2 true (.t 82)), (some (80, true))⟩,
 ⟨(some 84), (.call (.t 81) [(.t 83)]), (some (80, true))⟩,
 ⟨(some 85), (.pick (.t 80) (.t 84) (.c (.l (.v (.bool false))))), none⟩,
 ⟨(some 86), (.mov (.t 85)), none⟩,
 ⟨(some 87), (.load 1 false (.t 3)), (some (86, true))⟩,
 ⟨(some 88), (.faddr 5 (.t 1)), (some (86, true))⟩,
 ⟨(some 89), (.load 2 true (.t 88)), (some (86, true))⟩,
 ⟨(some 90), (.call (.t 87) [(.t 89)]), (some (86, true))⟩,
 ⟨(some 91), (.pick (.t 86) (.t 90) (.c (.l (.v (.bool false))))), none⟩,
 ⟨(some 92), (.mov (.t 91)), none⟩,
 ⟨(some 93), (.faddr 9 (.t 1)), (some (92, true))⟩,
 ⟨(some 94), (.load 1 false (.t 93)), (some (92, true))⟩,
 ⟨(some 95), (.bin .geq (.t 94) (.c (.l (.v (.int .i64 1))))), (some (92, true))⟩,
 ⟨(some 96), (.pick (.t 92) (.t 95) (.c (.l (.v (.bool false))))), none⟩,
 ⟨(some 97), (.mov (.t 96)), none⟩,
 ⟨(some 98), (.faddr 9 (.t 1)), (some (97, true))⟩,
 ⟨(some 99), (.load 1 false (.t 98)), (some (97, true))⟩,
 ⟨(some 100), (.bin .leq (.t 99) (.c (.l (.v (.int .i64 3))))), (some (97, true))⟩,
 ⟨(some 101), (.pick (.t 97) (.t 100) (.c (.l (.v (.bool false))))), none⟩,
 ⟨(some 2), (.mov (.t 101)), none⟩] [])
 .ret))
 (.seq
 (.reg [
 ⟨(some 103), (.bin .eql (.t 20) (.c (.l (.v (.int .i64 4))))), none⟩,
 ⟨(some 102), (.mov (.t 103)), none⟩] [])
 (.cond (.t 102)
 (.seq
 (.reg [
 ⟨(some 104), (.faddr 5 (.t 1)), none⟩,
 ⟨(some 105), (.load 2 true (.t 104)), none⟩,
 ⟨(some 106), (.faddr 9 (.t 1)), none⟩,
 ⟨(some 107), (.load 1 false (.t 106)), none⟩,
 ⟨(some 108), (.faddr 5 (.t 5)), none⟩,
 ⟨none, (.store 2 (.t 108) (.t 105)), none⟩,
 ⟨(some 109), (.faddr 9 (.t 5)), none⟩,
 ⟨none, (.store 1 (.t 109) (.t 107)), none⟩] [[], [], [], [], [], [2, 3], [], []])
 (.seq
 (.reg [
 ⟨(some 110), (.load 12 true (.t 1)), none⟩,
 ⟨(some 111), (.load 12 true (.t 5)), none⟩,
 ⟨(some 112), (.eqs false [(.i .i64), (.i .i64), (.i .i64), (.i .i64), (.i .i64), (.i .i64), (.i .i64), (.i .i64), (.i .i64), (.i .i64), .b, .s] (.t 110) (.t 111)), none⟩,
 ⟨(some 113), (.mov (.t 112)), none⟩,
 ⟨(some 114), (.mov (.t 4)), (some (113, true))⟩,
 ⟨(some 115), (.faddr 3 (.t 1)), (some (113, true))⟩,
 ⟨(some 116), (.load 2 true (.t 115)), (some (113, true))⟩,
 ⟨(some 117), (.call (.t 114) [(.t 116)]), (some (113, true))⟩,
 ⟨(some 118), (.pick (.t 113) (.t 117) (.c (.l (.v (.bool false))))), none⟩,
 ⟨(some 119), (.mov (.t 118)), none⟩,
 ⟨(some 120), (.mov (.t 4)), (some (119, true))⟩,
 ⟨(some 121), (.faddr 5 (.t 1)), (some (119, true))⟩,
 ⟨(some 122), (.load 2 true (.t 121)), (some (119, true))⟩,
 ⟨(some 123), (.call (.t 120) [(.t 122)]), (some (119, true))⟩,
 ⟨(some 124), (.pick (.t 119) (.t 123) (.c (.l (.v (.bool false))))), none⟩,
 ⟨(some 125), (.mov (.t 124)), none⟩,
 ⟨(some 126), (.faddr 9 (.t 1)), (some (125, true))⟩,
 ⟨(some 127), (.load 1 false (.t 126)), (some (125, true))⟩,
 ⟨(some 128), (.bin .geq (.t 127) (.c (.l (.v (.int .i64 1))))), (some (125, true))⟩,
 ⟨(some 129), (.pick (.t 125) (.t 128) (.c (.l (.v (.bool false))))), none⟩,
 ⟨(some 130), (.mov (.t 129)), none⟩,
 ⟨(some 131), (.faddr 9 (.t 1)), (some (130, true))⟩,
 ⟨(some 132), (.load 1 false (.t 131)), (some (130, true))⟩,
 ⟨(some 133), (.bin .leq (.t 132) (.c (.l (.v (.int .i64 4))))), (some (130, true))⟩,
 ⟨(some 134), (.pick (.t 130) (.t 133) (.c (.l (.v (.bool false))))), none⟩,
 ⟨(some 2), (.mov (.t 134)), none⟩] [])
 .ret))
 (.seq
 (.reg [
 ⟨(some 136), (.bin .eql (.t 20) (.c (.l (.v (.int .i64 5))))), none⟩,
 ⟨(some 135), (.mov (.t 136)), none⟩] [])
 (.cond (.t 135)
 (.seq
 (.reg [
 ⟨(some 137), (.faddr 5 (.t 1)), none⟩,
 ⟨(some 138), (.load 2 true (.t 137)), none⟩,
 ⟨(some 139), (.faddr 7 (.t 1)), none⟩,
 ⟨(some 140), (.load 2 true (.t 139)), none⟩,
 ⟨(some 141), (.faddr 5 (.t 5)), none⟩,
 ⟨none, (.store 2 (.t 141) (.t 138)), none⟩,
 ⟨(some 142), (.faddr 7 (.t 5)), none⟩,
 ⟨none, (.store 2 (.t 142) (.t 140)), none⟩] [[], [], [], [], [], [2, 3], [], []])
 (.seq
 (.reg [
 ⟨(some 143), (.load 12 true (.t 1)), none⟩,
 ⟨(some 144), (.load 12 true (.t 5)), none⟩,
 ⟨(some 145), (.eqs false [(.i .i64), (.i .i64), (.i .i64), (.i .i64), (.i .i64), (.i .i64), (.i .i64), (.i .i64), (.i .i64), (.i .i64), .b, .s] (.t 143) (.t 144)), none⟩,
 ⟨(some 146), (.mov (.t 145)), none⟩,
 ⟨(some 147), (.load 1 false (.t 3)), (some (146, true))⟩,
 ⟨(some 148), (.faddr 3 (.t 1)), (some (146, true))⟩,
 ⟨(some 149), (.load 2 true (.t 148)), (some (146, true))⟩,
 ⟨(some 150), (.call (.t 147) [(.t 149)]), (some (146, true))⟩,
 ⟨(some 151), (.pick (.t 146) (.t 150) (.c (.l (.v (.bool false))))), none⟩,
 ⟨(some 152), (.mov (.t 151)), none⟩,
 ⟨(some 153), (.mov (.t 4)), (some (152, true))⟩,
 ⟨(some 154), (.faddr 5 (.t 1)), (some (152, true))⟩,
 ⟨(some 155), (.load 2 true (.t 154)), (some (152, true))⟩,
 ⟨(some 156), (.call (.t 153) [(.t 155)]), (some (152, true))⟩,
 ⟨(some 157), (.pick (.t 152) (.t 156) (.c (.l (.v (.bool false))))), none⟩,
 ⟨(some 158), (.mov (.t 157)), none⟩,
 ⟨(some 159), (.mov (.t 4)), (some (158, true))⟩,
 ⟨(some 160), (.faddr 7 (.t 1)), (some (158, true))⟩,
 ⟨(some 161), (.load 2 true (.t 160)), (some (158, true))⟩,
 ⟨(some 162), (.call (.t 159) [(.t 161)]), (some (158, true))⟩,
 ⟨(some 163), (.pick (.t 158) (.t 162) (.c (.l (.v (.bool false))))), none⟩,
 ⟨(some 2), (.mov (.t 163)), none⟩] [])
 .ret))
 (.seq
 (.reg [
 ⟨(some 165), (.bin .eql (.t 20) (.c (.l (.v (.int .i64 6))))), none⟩,
 ⟨(some 164), (.mov (.t 165)), none⟩] [])
 (.cond (.t 164)
 (.seq
 (.reg [
 ⟨(some 166), (.faddr 9 (.t 1)), none⟩,
 ⟨(some 167), (.load 1 false (.t 166)), none⟩,
 ⟨(some 168), (.faddr 9 (.t 5)), none⟩,
 ⟨none, (.store 1 (.t 168) (.t 167)), none⟩] [])
 (.seq
 (.reg [
 ⟨(some 169), (.load 12 true (.t 1)), none⟩,
 ⟨(some 170), (.load 12 true (.t 5)), none⟩,
 ⟨(some 171), (.eqs false [(.i .i64), (.i .i64), (.i .i64), (.i .i64), (.i .i64), (.i .i64), (.i .i64), (.i .i64), (.i .i64), (.i .i64), .b, .s] (.t 169) (.t 170)), none⟩,
 ⟨(some 172), (.mov (.t 171)), none⟩,
 ⟨(some 173), (.load 1 false (.t 3)), (some (172, true))⟩,
 ⟨(some 174), (.faddr 3 (.t 1)), (some (172, true))⟩,
 ⟨(some 175), (.load 2 true (.t 174)), (some (172, true))⟩,
 ⟨(some 176), (.call (.t 173) [(.t 175)]), (some (172, true))⟩,
 ⟨(some 177), (.pick (.t 172) (.t 176) (.c (.l (.v (.bool false))))), none⟩,
 ⟨(some 178), (.mov (.t 177)), none⟩,
 ⟨(some 179), (.faddr 9 (.t 1)), (some (178, true))⟩,
 ⟨(some 180), (.load 1 false (.t 179)), (some (178, true))⟩,
 ⟨(some 181), (.bin .geq (.t 180) (.c (.l (.v (.int .i64 1))))), (some (178, true))⟩,
 ⟨(some 182), (.pick (.t 178) (.t 181) (.c (.l (.v (.bool false))))), none⟩,
 ⟨(some 183), (.mov (.t 182)), none⟩,
 ⟨(some 184), (.faddr 9 (.t 1)), (some (183, true))⟩,
 ⟨(some 185), (.load 1 false (.t 184)), (some (183, true))⟩,
 ⟨(some 186), (.bin .leq (.t 185) (.c (.l (.v (.int .i64 4))))), (some (183, true))⟩,
 ⟨(some 187), (.pick (.t 183) (.t 186) (.c (.l (.v (.bool false))))), none⟩,
 ⟨(some 2), (.mov (.t 187)), none⟩] [])
 .ret))
 (.seq
 (.reg [
 ⟨(some 189), (.bin .eql (.t 20) (.c (.l (.v (.int .i64 8))))), none⟩,
 ⟨(some 188), (.mov (.t 189)), none⟩] [])
 (.cond (.t 188)
 (.seq
 (.reg [
 ⟨(some 190), (.faddr 5 (.t 1)), none⟩,
 ⟨(some 191), (.load 2 true (.t 190)), none⟩,
 ⟨(some 192), (.faddr 11 (.t 1)), none⟩,
 ⟨(some 193), (.load 1 false (.t 192)), none⟩,
 ⟨(some 194), (.faddr 5 (.t 5)), none⟩,
 ⟨none, (.store 2 (.t 194) (.t 191)), none⟩,
 ⟨(some 195), (.faddr 11 (.t 5)), none⟩,
 ⟨none, (.store 1 (.t 195) (.t 193)), none⟩] [[], [], [], [], [], [2, 3], [], []])
 (.seq
 (.reg [
 ⟨(some 196), (.load 12 true (.t 1)), none⟩,
 ⟨(some 197), (.load 12 true (.t 5)), none⟩,
 ⟨(some 198), (.eqs false [(.i .i64), (.i .i64), (.i .i64), (.i .i64), (.i .i64), (.i .i64), (.i .i64), (.i .i64), (.i .i64), (.i .i64), .b, .s] (.t 196) (.t 197)), none⟩,
 ⟨(some 199), (.mov (.t 198)), none⟩,
 ⟨(some 200), (.load 1 false (.t 3)), (some (199, true))⟩,
 ⟨(some 201), (.faddr 3 (.t 1)), (some (199, true))⟩,
 ⟨(some 202), (.load 2 true (.t 201)), (some (199, true))⟩,
 ⟨(some 203), (.call (.t 200) [(.t 202)]), (some (199, true))⟩,
 ⟨(some 204), (.pick (.t 199) (.t 203) (.c (.l (.v (.bool false))))), none⟩,
 ⟨(some 205), (.mov (.t 204)), none⟩,
 ⟨(some 206), (.load 1 false (.t 3)), (some (205, true))⟩,
 ⟨(some 207), (.faddr 5 (.t 1)), (some (205, true))⟩,
 ⟨(some 208), (.load 2 true (.t 207)), (some (205, true))⟩,
 ⟨(some 209), (.call (.t 206) [(.t 208)]), (some (205, true))⟩,
 ⟨(some 210), (.pick (.t 205) (.t 209) (.c (.l (.v (.bool false))))), none⟩,
 ⟨(some 211), (.mov (.t 210)), none⟩,
 ⟨(some 212), (.faddr 11 (.t 1)), (some (211, true))⟩,
 ⟨(some 213), (.load 1 false (.t 212)), (some (211, true))⟩,
 ⟨(some 214), (.call (.c (.l (.clos 113 []))) [(.t 213)]), (some (211, true))⟩,
 ⟨(some 215), (.pick (.t 211) (.t 214) (.c (.l (.v (.bool false))))), none⟩,
 ⟨(some 2), (.mov (.t 215)), none⟩] [])
 .ret))
 (.seq
 (.reg [
 ⟨(some 217), (.bin .eql (.t 20) (.c (.l (.v (.int .i64 9))))), none⟩,
 ⟨(some 216), (.mov (.t 217)), none⟩] [])
 (.cond (.t 216)
 (.seq
 (.reg [
 ⟨(some 218), (.faddr 11 (.t 1)), none⟩,
 ⟨(some 219), (.load 1 false (.t 218)), none⟩,
 ⟨(some 220), (.faddr 11 (.t 5)), none⟩,
 ⟨none, (.store 1 (.t 220) (.t 219)), none⟩] [])
 (.seq
 (.reg [
 ⟨(some 221), (.load 12 true (.t 1)), none⟩,
 ⟨(some 222), (.load 12 true (.t 5)), none⟩,
 ⟨(some 223), (.eqs false [(.i .i64), (.i .i64), (.i .i64), (.i .i64), (.i .i64), (.i .i64), (.i .i64), (.i .i64), (.i .i64), (.i .i64), .b, .s] (.t 221) (.t 222)), none⟩,
 ⟨(some 224), (.mov (.t 223)), none⟩,
 ⟨(some 225), (.load 1 false (.t 3)), (some (224, true))⟩,
 ⟨(some 226), (.faddr 3 (.t 1)), (some (224, true))⟩,
 ⟨(some 227), (.load 2 true (.t 226)), (some (224, true))⟩,
 ⟨(some 228), (.call (.t 225) [(.t 227)]), (some (224, true))⟩,
 ⟨(some 229), (.pick (.t 224) (.t 228) (.c (.l (.v (.bool false))))), none⟩,
 ⟨(some 230), (.mov (.t 229)), none⟩,
 ⟨(some 231), (.faddr 11 (.t 1)), (some (230, true))⟩,
 ⟨(some 232), (.load 1 false (.t 231)), (some (230, true))⟩,
 ⟨(some 233), (.call (.c (.l (.clos 113 []))) [(.t 232)]), (some (230, true))⟩,
 ⟨(some 234), (.pick (.t 230) (.t 233) (.c (.l (.v (.bool false))))), none⟩,
 ⟨(some 2), (.mov (.t 234)), none⟩] [])
 .ret))
 (.seq
 (.reg [
 ⟨(some 236), (.bin .eql (.t 20) (.c (.l (.v (.int .i64 10))))), none⟩,
 ⟨(some 235), (.mov (.t 236)), none⟩] [])
 (.cond (.t 235)
 (.seq
 (.reg [
 ⟨(some 237), (.faddr 10 (.t 1)), none⟩,
 ⟨(some 238), (.load 1 false (.t 237)), none⟩,
 ⟨(some 239), (.faddr 10 (.t 5)), none⟩,
 ⟨none, (.store 1 (.t 239) (.t 238)), none⟩] [])
 (.seq
 (.reg [
 ⟨(some 240), (.load 12 true (.t 1)), none⟩,
 ⟨(some 241), (.load 12 true (.t 5)), none⟩,
 ⟨(some 242), (.eqs false [(.i .i64), (.i .i64), (.i .i64), (.i .i64), (.i .i64), (.i .i64), (.i .i64), (.i .i64), (.i .i64), (.i .i64), .b, .s] (.t 240) (.t 241)), none⟩,
 ⟨(some 243), (.mov (.t 242)), none⟩,
 ⟨(some 244), (.load 1 false (.t 3)), (some (243, true))⟩,
 ⟨(some 245), (.faddr 3 (.t 1)), (some (243, true))⟩,
 ⟨(some 246), (.load 2 true (.t 245)), (some (243, true))⟩,
 ⟨(some 247), (.call (.t 244) [(.t 246)]), (some (243, true))⟩,
 ⟨(some 248), (.pick (.t 243) (.t 247) (.c (.l (.v (.bool false))))), none⟩,
 ⟨(some 2), (.mov (.t 248)), none⟩] [])
 .ret))
 .skip))))))))))))))))))))
 (.seq
 (.reg [
 ⟨(some 2), (.mov (.c (.l (.v (.bool false))))), none⟩] [])
 .ret)))))))
theorem c77_eq : Try.f77.body.bind (comp Try.prog Try.f77.ntmps) = some c77 := by kernel_rfl

/-- loop.example/collabdoc/spec.validVector: params 1, results [2] -/
def c93 : ACode :=
 (.seq
 (.reg [
 ⟨(some 2), (.mov (.c (.l (.v (.bool false))))), none⟩] [])
 (.seq
 (.seq
 (.reg [
 ⟨(some 3), (.mov (.c (.l (.v (.int .i64 0))))), none⟩] [])
 (.block 0
 (.loop
 (.seq
 (.seq
 (.reg [
 ⟨(some 4), (.mov (.t 3)), none⟩,
 ⟨(some 5), (.mov (.t 0)), none⟩,
 ⟨(some 6), (.len (.t 5)), none⟩,
 ⟨(some 7), (.bin .lss (.t 4) (.t 6)), none⟩] [])
 (.cond (.t 7)
 .skip
 (.exit 0)))
 (.seq
 (.block 1
 (.seq
 (.reg [
 ⟨(some 10), (.mov (.t 0)), none⟩,
 ⟨(some 11), (.mov (.t 3)), none⟩,
 ⟨(some 12), (.iaddr 1 (.t 10) (.t 11)), none⟩,
 ⟨(some 13), (.load 1 false (.t 12)), none⟩,
 ⟨(some 14), (.call (.c (.l (.clos 101 []))) [(.t 13), (.c (.l (.v (.int .i64 0)))), (.c (.l (.v (.int .i64 99))))]), none⟩,
 ⟨(some 15), (.notb (.t 14)), none⟩] [])
 (.cond (.t 15)
 (.seq
 (.reg [
 ⟨(some 2), (.mov (.c (.l (.v (.bool false))))), none⟩] [])
 .ret)
 .skip)))
 (.reg [
 ⟨(some 8), (.mov (.t 3)), none⟩,
 ⟨(some 9), (.bin .add (.t 8) (.c (.l (.v (.int .i64 1))))), none⟩,
 ⟨(some 3), (.mov (.t 9)), none⟩] []))))))
 (.seq
 (.reg [
 ⟨(some 16), (.mov (.t 0)), none⟩,
 ⟨(some 17), (.len (.t 16)), none⟩,
 ⟨(some 18), (.bin .eql (.t 17) (.c (.l (.v (.int .i64 3))))), none⟩,
 ⟨(some 2), (.mov (.t 18)), none⟩] [])
 .ret)))
theorem c93_eq : Try.f93.body.bind (comp Try.prog Try.f93.ntmps) = some c93 := by kernel_rfl

/-- loop.example/collabdoc/spec.vectorContains: params 2, results [4] -/
def c94 : ACode :=
 (.seq
 (.reg [
 ⟨(some 3), (.box (.t 1)), none⟩,
 ⟨(some 4), (.mov (.c (.l (.v (.bool false))))), none⟩] [])
 (.seq
 (.reg [
 ⟨(some 5), (.faddr 0 (.t 3)), none⟩,
 ⟨(some 6), (.load 1 false (.t 5)), none⟩,
 ⟨(some 7), (.mov (.t 0)), none⟩,
 ⟨(some 8), (.faddr 1 (.t 3)), none⟩,
 ⟨(some 9), (.load 1 false (.t 8)), none⟩,
 ⟨(some 10), (.iaddr 1 (.t 7) (.t 9)), none⟩,
 ⟨(some 11), (.load 1 false (.t 10)), none⟩,
 ⟨(some 12), (.bin .leq (.t 6) (.t 11)), none⟩,
 ⟨(some 4), (.mov (.t 12)), none⟩] [])
 .ret))
theorem c94_eq : Try.f94.body.bind (comp Try.prog Try.f94.ntmps) = some c94 := by kernel_rfl

/-- loop.example/collabdoc/spec.makeMessage: params 2, results [CELL 4] -/
def c95 : ACode :=
 (.seq
 (.reg [
 ⟨(some 3), (.box (.t 1)), none⟩,
 ⟨(some 4), (.alloc [(.v (.int .i64 0)), (.v (.int .i64 0)), (.v (.int .i64 0)), (.v (.int .i64 0)), (.v (.int .i64 0)), (.v (.int .i64 0)), (.v (.int .i64 0)), (.v (.int .i64 0)), (.v (.int .i64 0)), (.v (.int .i64 0)), (.v (.bool false)), (.v (.string ⟨#[]⟩)), (.v (.int .i64 0))]), none⟩] [])
 (.seq
 (.reg [
 ⟨(some 7), (.load 12 true (.t 3)), none⟩,
 ⟨(some 8), (.build [(.v (.int .i64 0)), (.v (.int .i64 0)), (.v (.int .i64 0)), (.v (.int .i64 0)), (.v (.int .i64 0)), (.v (.int .i64 0)), (.v (.int .i64 0)), (.v (.int .i64 0)), (.v (.int .i64 0)), (.v (.int .i64 0)), (.v (.bool false)), (.v (.string ⟨#[]⟩)), (.v (.int .i64 0))] [(0, 12, (.t 7))]), none⟩,
 ⟨(some 5), (.alloc [(.v (.int .i64 0)), (.v (.int .i64 0)), (.v (.int .i64 0)), (.v (.int .i64 0)), (.v (.int .i64 0)), (.v (.int .i64 0)), (.v (.int .i64 0)), (.v (.int .i64 0)), (.v (.int .i64 0)), (.v (.int .i64 0)), (.v (.bool false)), (.v (.string ⟨#[]⟩)), (.v (.int .i64 0))]), none⟩,
 ⟨none, (.store 13 (.t 5) (.t 8)), none⟩] [])
 (.seq
 (.seq
 (.reg [
 ⟨(some 6), (.mov (.c (.l (.v (.int .i64 0))))), none⟩] [])
 (.block 0
 (.loop
 (.seq
 (.seq
 (.reg [
 ⟨(some 9), (.mov (.t 6)), none⟩,
 ⟨(some 10), (.mov (.t 0)), none⟩,
 ⟨(some 11), (.len (.t 10)), none⟩,
 ⟨(some 12), (.bin .lss (.t 9) (.t 11)), none⟩] [])
 (.cond (.t 12)
 .skip
 (.exit 0)))
 (.seq
 (.block 1
 (.seq
 (.reg [
 ⟨(some 15), (.mov (.t 0)), none⟩,
 ⟨(some 16), (.mov (.t 6)), none⟩,
 ⟨(some 17), (.iaddr 12 (.t 15) (.t 16)), none⟩,
 ⟨(some 18), (.faddr 0 (.t 17)), none⟩,
 ⟨(some 19), (.faddr 1 (.t 18)), none⟩,
 ⟨(some 20), (.load 1 false (.t 19)), none⟩,
 ⟨(some 21), (.faddr 0 (.t 3)), none⟩,
 ⟨(some 22), (.faddr 1 (.t 21)), none⟩,
 ⟨(some 23), (.load 1 false (.t 22)), none⟩,
 ⟨(some 24), (.bin .eql (.t 20) (.t 23)), none⟩,
 ⟨(some 25), (.mov (.t 24)), none⟩,
 ⟨(some 26), (.mov (.t 0)), (some (25, true))⟩,
 ⟨(some 27), (.mov (.t 6)), (some (25, true))⟩,
 ⟨(some 28), (.iaddr 12 (.t 26) (.t 27)), (some (25, true))⟩,
 ⟨(some 29), (.faddr 0 (.t 28)), (some (25, true))⟩,
 ⟨(some 30), (.faddr 0 (.t 29)), (some (25, true))⟩,
 ⟨(some 31), (.load 1 false (.t 30)), (some (25, true))⟩,
 ⟨(some 32), (.faddr 0 (.t 3)), (some (25, true))⟩,
 ⟨(some 33), (.faddr 0 (.t 32)), (some (25, true))⟩,
 ⟨(some 34), (.load 1 false (.t 33)), (some (25, true))⟩,
 ⟨(some 35), (.bin .lss (.t 31) (.t 34)), (some (25, true))⟩,
 ⟨(some 36), (.pick (.t 25) (.t 35) (.c (.l (.v (.bool false))))), none⟩] [])
 (.cond (.t 36)
 (.reg [
 ⟨(some 37), (.mov (.t 0)), none⟩,
 ⟨(some 38), (.mov (.t 6)), none⟩,
 ⟨(some 39), (.iaddr 12 (.t 37) (.t 38)), none⟩,
 ⟨(some 40), (.faddr 0 (.t 39)), none⟩,
 ⟨(some 41), (.faddr 0 (.t 40)), none⟩,
 ⟨(some 42), (.load 1 false (.t 41)), none⟩,
 ⟨(some 43), (.faddr 12 (.t 5)), none⟩,
 ⟨none, (.store 1 (.t 43) (.t 42)), none⟩] [])
 .skip)))
 (.reg [
 ⟨(some 13), (.mov (.t 6)), none⟩,
 ⟨(some 14), (.bin .add (.t 13) (.c (.l (.v (.int .i64 1))))), none⟩,
 ⟨(some 6), (.mov (.t 14)), none⟩] []))))))
 (.seq
 (.reg [
 ⟨(some 44), (.load 13 true (.t 5)), none⟩,
 ⟨none, (.store 13 (.t 4) (.t 44)), none⟩] [])
 .ret))))
theorem c95_eq : Try.f95.body.bind (comp Try.prog Try.f95.ntmps) = some c95 := by kernel_rfl

/-- loop.example/collabdoc/impl.ValidVector: params 1, results [2] -/
def c96 : ACode :=
 (.seq
 (.reg [
 ⟨(some 2), (.mov (.c (.l (.v (.bool false))))), none⟩] [])
 (.seq
 (.seq
 (.reg [
 ⟨(some 5), (.mov (.t 0)), none⟩,
 ⟨(some 6), (.len (.t 5)), none⟩,
 ⟨(some 7), (.mov (.c (.l (.v (.int .i64 0))))), none⟩] [])
 (.block 0
 (.loop
 (.seq
 (.reg [
 ⟨(some 8), (.bin .lss (.t 7) (.t 6)), none⟩] [])
 (.seq
 (.cond (.t 8)
 .skip
 (.exit 0))
 (.seq
 (.block 1
 (.seq
 (.reg [
 ⟨(some 9), (.iaddr 1 (.t 5) (.t 7)), none⟩,
 ⟨(some 10), (.load 1 false (.t 9)), none⟩,
 ⟨(some 4), (.mov (.t 10)), none⟩] [])
 (.seq
 (.reg [
 ⟨(some 11), (.mov (.t 4)), none⟩,
 ⟨(some 12), (.bin .lss (.t 11) (.c (.l (.v (.int .i64 0))))), none⟩,
 ⟨(some 13), (.mov (.t 12)), none⟩,
 ⟨(some 14), (.mov (.t 4)), (some (13, false))⟩,
 ⟨(some 15), (.bin .gtr (.t 14) (.c (.l (.v (.int .i64 99))))), (some (13, false))⟩,
 ⟨(some 16), (.pick (.t 13) (.c (.l (.v (.bool true)))) (.t 15)), none⟩] [])
 (.cond (.t 16)
 (.seq
 (.reg [
 ⟨(some 2), (.mov (.c (.l (.v (.bool false))))), none⟩] [])
 .ret)
 .skip))))
 (.reg [
 ⟨(some 17), (.bin .add (.t 7) (.c (.l (.v (.int .i64 1))))), none⟩,
 ⟨(some 7), (.mov (.t 17)), none⟩] [])))))))
 (.seq
 (.reg [
 ⟨(some 18), (.mov (.t 0)), none⟩,
 ⟨(some 19), (.len (.t 18)), none⟩,
 ⟨(some 20), (.bin .eql (.t 19) (.c (.l (.v (.int .i64 3))))), none⟩,
 ⟨(some 2), (.mov (.t 20)), none⟩] [])
 .ret)))
theorem c96_eq : Try.f96.body.bind (comp Try.prog Try.f96.ntmps) = some c96 := by kernel_rfl

/-- loop.example/collabdoc/impl.VectorContains: params 2, results [4] -/
def c97 : ACode :=
 (.seq
 (.reg [
 ⟨(some 3), (.box (.t 1)), none⟩,
 ⟨(some 4), (.mov (.c (.l (.v (.bool false))))), none⟩] [])
 (.seq
 (.reg [
 ⟨(some 5), (.mov (.t 0)), none⟩,
 ⟨(some 6), (.call (.c (.l (.clos 96 []))) [(.t 5)]), none⟩,
 ⟨(some 7), (.mov (.t 6)), none⟩,
 ⟨(some 8), (.load 2 true (.t 3)), (some (7, true))⟩,
 ⟨(some 9), (.call (.c (.l (.clos 111 []))) [(.t 8)]), (some (7, true))⟩,
 ⟨(some 10), (.pick (.t 7) (.t 9) (.c (.l (.v (.bool false))))), none⟩,
 ⟨(some 11), (.mov (.t 10)), none⟩,
 ⟨(some 12), (.faddr 0 (.t 3)), (some (11, true))⟩,
 ⟨(some 13), (.load 1 false (.t 12)), (some (11, true))⟩,
 ⟨(some 14), (.mov (.t 0)), (some (11, true))⟩,
 ⟨(some 15), (.faddr 1 (.t 3)), (some (11, true))⟩,
 ⟨(some 16), (.load 1 false (.t 15)), (some (11, true))⟩,
 ⟨(some 17), (.iaddr 1 (.t 14) (.t 16)), (some (11, true))⟩,
 ⟨(some 18), (.load 1 false (.t 17)), (some (11, true))⟩,
 ⟨(some 19), (.bin .leq (.t 13) (.t 18)), (some (11, true))⟩,
 ⟨(some 20), (.pick (.t 11) (.t 19) (.c (.l (.v (.bool false))))), none⟩,
 ⟨(some 4), (.mov (.t 20)), none⟩] [])
 .ret))
theorem c97_eq : Try.f97.body.bind (comp Try.prog Try.f97.ntmps) = some c97 := by kernel_rfl

/-- loop.example/collabdoc/impl.previous: params 2, results [4] -/
def c98 : ACode :=
 (.seq
 (.reg [
 ⟨(some 3), (.box (.t 1)), none⟩,
 ⟨(some 4), (.mov (.c (.l (.v (.int .i64 0))))), none⟩] [])
 (.seq
 (.reg [
 ⟨(some 5), (.mov (.c (.l (.v (.int .i64 0))))), none⟩] [])
 (.seq
 (.seq
 (.reg [
 ⟨(some 8), (.mov (.t 0)), none⟩,
 ⟨(some 9), (.len (.t 8)), none⟩,
 ⟨(some 10), (.mov (.c (.l (.v (.int .i64 0))))), none⟩] [])
 (.block 0
 (.loop
 (.seq
 (.reg [
 ⟨(some 11), (.bin .lss (.t 10) (.t 9)), none⟩] [])
 (.seq
 (.cond (.t 11)
 .skip
 (.exit 0))
 (.seq
 (.block 1
 (.seq
 (.reg [
 ⟨(some 12), (.iaddr 12 (.t 8) (.t 10)), none⟩,
 ⟨(some 13), (.load 12 true (.t 12)), none⟩,
 ⟨(some 7), (.alloc [(.v (.int .i64 0)), (.v (.int .i64 0)), (.v (.int .i64 0)), (.v (.int .i64 0)), (.v (.int .i64 0)), (.v (.int .i64 0)), (.v (.int .i64 0)), (.v (.int .i64 0)), (.v (.int .i64 0)), (.v (.int .i64 0)), (.v (.bool false)), (.v (.string ⟨#[]⟩))]), none⟩,
 ⟨none, (.store 12 (.t 7) (.t 13)), none⟩] [])
 (.seq
 (.reg [
 ⟨(some 14), (.faddr 0 (.t 7)), none⟩,
 ⟨(some 15), (.faddr 1 (.t 14)), none⟩,
 ⟨(some 16), (.load 1 false (.t 15)), none⟩,
 ⟨(some 17), (.faddr 1 (.t 3)), none⟩,
 ⟨(some 18), (.load 1 false (.t 17)), none⟩,
 ⟨(some 19), (.bin .eql (.t 16) (.t 18)), none⟩,
 ⟨(some 20), (.mov (.t 19)), none⟩,
 ⟨(some 21), (.faddr 0 (.t 7)), (some (20, true))⟩,
 ⟨(some 22), (.faddr 0 (.t 21)), (some (20, true))⟩,
 ⟨(some 23), (.load 1 false (.t 22)), (some (20, true))⟩,
 ⟨(some 24), (.faddr 0 (.t 3)), (some (20, true))⟩,
 ⟨(some 25), (.load 1 false (.t 24)), (some (20, true))⟩,
 ⟨(some 26), (.bin .lss (.t 23) (.t 25)), (some (20, true))⟩,
 ⟨(some 27), (.pick (.t 20) (.t 26) (.c (.l (.v (.bool false))))), none⟩] [])
 (.cond (.t 27)
 (.reg [
 ⟨(some 28), (.faddr 0 (.t 7)), none⟩,
 ⟨(some 29), (.faddr 0 (.t 28)), none⟩,
 ⟨(some 30), (.load 1 false (.t 29)), none⟩,
 ⟨(some 5), (.mov (.t 30)), none⟩] [])
 .skip))))
 (.reg [
 ⟨(some 31), (.bin .add (.t 10) (.c (.l (.v (.int .i64 1))))), none⟩,
 ⟨(some 10), (.mov (.t 31)), none⟩] [])))))))
 (.seq
 (.reg [
 ⟨(some 32), (.mov (.t 5)), none⟩,
 ⟨(some 4), (.mov (.t 32)), none⟩] [])
 .ret))))
theorem c98_eq : Try.f98.body.bind (comp Try.prog Try.f98.ntmps) = some c98 := by kernel_rfl

/-- loop.example/collabdoc/laws.eqMessage: params 2, results [4] -/
def c99 : ACode :=
 (.seq
 (.reg [
 ⟨(some 2), (.box (.t 0)), none⟩,
 ⟨(some 3), (.box (.t 1)), none⟩,
 ⟨(some 4), (.mov (.c (.l (.v (.bool false))))), none⟩] [])
 (.seq
 (.seq
 (.reg [
 ⟨(some 5), (.faddr 0 (.t 2)), none⟩,
 ⟨(some 6), (.load 12 true (.t 5)), none⟩,
 ⟨(some 7), (.faddr 0 (.t 3)), none⟩,
 ⟨(some 8), (.load 12 true (.t 7)), none⟩,
 ⟨(some 9), (.call (.c (.l (.clos 22 []))) [(.t 6), (.t 8)]), none⟩,
 ⟨(some 10), (.notb (.t 9)), none⟩] [])
 (.cond (.t 10)
 (.seq
 (.reg [
 ⟨(some 4), (.mov (.c (.l (.v (.bool false))))), none⟩] [])
 .ret)
 .skip))
 (.seq
 (.seq
 (.reg [
 ⟨(some 11), (.faddr 12 (.t 2)), none⟩,
 ⟨(some 12), (.load 1 false (.t 11)), none⟩,
 ⟨(some 13), (.faddr 12 (.t 3)), none⟩,
 ⟨(some 14), (.load 1 false (.t 13)), none⟩,
 ⟨(some 15), (.bin .neq (.t 12) (.t 14)), none⟩] [])
 (.cond (.t 15)
 (.seq
 (.reg [
 ⟨(some 4), (.mov (.c (.l (.v (.bool false))))), none⟩] [])
 .ret)
 .skip))
 (.seq
 (.reg [
 ⟨(some 4), (.mov (.c (.l (.v (.bool true))))), none⟩] [])
 .ret))))
theorem c99_eq : Try.f99.body.bind (comp Try.prog Try.f99.ntmps) = some c99 := by kernel_rfl

/-- loop.example/collabdoc/spec.stampLess: params 2, results [4] -/
def c100 : ACode :=
 (.seq
 (.reg [
 ⟨(some 2), (.box (.t 0)), none⟩,
 ⟨(some 3), (.box (.t 1)), none⟩,
 ⟨(some 4), (.mov (.c (.l (.v (.bool false))))), none⟩] [])
 (.seq
 (.reg [
 ⟨(some 5), (.faddr 0 (.t 2)), none⟩,
 ⟨(some 6), (.load 1 false (.t 5)), none⟩,
 ⟨(some 7), (.faddr 0 (.t 3)), none⟩,
 ⟨(some 8), (.load 1 false (.t 7)), none⟩,
 ⟨(some 9), (.bin .lss (.t 6) (.t 8)), none⟩,
 ⟨(some 10), (.mov (.t 9)), none⟩,
 ⟨(some 11), (.faddr 0 (.t 2)), (some (10, false))⟩,
 ⟨(some 12), (.load 1 false (.t 11)), (some (10, false))⟩,
 ⟨(some 13), (.faddr 0 (.t 3)), (some (10, false))⟩,
 ⟨(some 14), (.load 1 false (.t 13)), (some (10, false))⟩,
 ⟨(some 15), (.bin .eql (.t 12) (.t 14)), (some (10, false))⟩,
 ⟨(some 16), (.mov (.t 15)), (some (10, false))⟩,
 ⟨(some 17), (.faddr 1 (.t 2)), (some (16, true))⟩,
 ⟨(some 18), (.load 1 false (.t 17)), (some (16, true))⟩,
 ⟨(some 19), (.faddr 1 (.t 3)), (some (16, true))⟩,
 ⟨(some 20), (.load 1 false (.t 19)), (some (16, true))⟩,
 ⟨(some 21), (.bin .lss (.t 18) (.t 20)), (some (16, true))⟩,
 ⟨(some 22), (.pick (.t 16) (.t 21) (.c (.l (.v (.bool false))))), (some (10, false))⟩,
 ⟨(some 23), (.pick (.t 10) (.c (.l (.v (.bool true)))) (.t 22)), none⟩,
 ⟨(some 4), (.mov (.t 23)), none⟩] [])
 .ret))
theorem c100_eq : Try.f100.body.bind (comp Try.prog Try.f100.ntmps) = some c100 := by kernel_rfl

/-- loop.example/collabdoc/spec.inRange: params 3, results [6] -/
def c101 : ACode :=
 (.seq
 (.reg [
 ⟨(some 6), (.mov (.c (.l (.v (.bool false))))), none⟩] [])
 (.seq
 (.reg [
 ⟨(some 7), (.mov (.t 0)), none⟩,
 ⟨(some 8), (.mov (.t 1)), none⟩,
 ⟨(some 9), (.bin .geq (.t 7) (.t 8)), none⟩,
 ⟨(some 10), (.mov (.t 9)), none⟩,
 ⟨(some 11), (.mov (.t 0)), (some (10, true))⟩,
 ⟨(some 12), (.mov (.t 2)), (some (10, true))⟩,
 ⟨(some 13), (.bin .leq (.t 11) (.t 12)), (some (10, true))⟩,
 ⟨(some 14), (.pick (.t 10) (.t 13) (.c (.l (.v (.bool false))))), none⟩,
 ⟨(some 6), (.mov (.t 14)), none⟩] [])
 .ret))
theorem c101_eq : Try.f101.body.bind (comp Try.prog Try.f101.ntmps) = some c101 := by kernel_rfl

/-- loop.example/collabdoc/spec.validStamp: params 1, results [2] -/
def c102 : ACode :=
 (.seq
 (.reg [
 ⟨(some 1), (.box (.t 0)), none⟩,
 ⟨(some 2), (.mov (.c (.l (.v (.bool false))))), none⟩] [])
 (.seq
 (.reg [
 ⟨(some 3), (.faddr 0 (.t 1)), none⟩,
 ⟨(some 4), (.load 1 false (.t 3)), none⟩,
 ⟨(some 5), (.call (.c (.l (.clos 101 []))) [(.t 4), (.c (.l (.v (.int .i64 1)))), (.c (.l (.v (.int .i64 99))))]), none⟩,
 ⟨(some 6), (.mov (.t 5)), none⟩,
 ⟨(some 7), (.faddr 1 (.t 1)), (some (6, true))⟩,
 ⟨(some 8), (.load 1 false (.t 7)), (some (6, true))⟩,
 ⟨(some 9), (.call (.c (.l (.clos 101 []))) [(.t 8), (.c (.l (.v (.int .i64 0)))), (.c (.l (.v (.int .i64 2))))]), (some (6, true))⟩,
 ⟨(some 10), (.pick (.t 6) (.t 9) (.c (.l (.v (.bool false))))), none⟩,
 ⟨(some 2), (.mov (.t 10)), none⟩] [])
 .ret))
theorem c102_eq : Try.f102.body.bind (comp Try.prog Try.f102.ntmps) = some c102 := by kernel_rfl

/-- loop.example/collabdoc/spec.validRef: params 3, results [6] -/
def c103 : ACode :=
 (.seq
 (.reg [
 ⟨(some 3), (.box (.t 0)), none⟩,
 ⟨(some 4), (.box (.t 1)), none⟩,
 ⟨(some 6), (.mov (.c (.l (.v (.bool false))))), none⟩] [])
 (.seq
 (.seq
 (.reg [
 ⟨(some 7), (.load 2 true (.t 4)), none⟩,
 ⟨(some 8), (.build [(.v (.int .i64 0)), (.v (.int .i64 0))] []), none⟩,
 ⟨(some 9), (.eqs false [(.i .i64), (.i .i64)] (.t 7) (.t 8)), none⟩] [])
 (.cond (.t 9)
 (.seq
 (.reg [
 ⟨(some 10), (.mov (.t 2)), none⟩,
 ⟨(some 6), (.mov (.t 10)), none⟩] [])
 .ret)
 .skip))
 (.seq
 (.reg [
 ⟨(some 11), (.load 2 true (.t 4)), none⟩,
 ⟨(some 12), (.call (.c (.l (.clos 102 []))) [(.t 11)]), none⟩,
 ⟨(some 13), (.mov (.t 12)), none⟩,
 ⟨(some 14), (.load 2 true (.t 4)), (some (13, true))⟩,
 ⟨(some 15), (.faddr 0 (.t 3)), (some (13, true))⟩,
 ⟨(some 16), (.load 2 true (.t 15)), (some (13, true))⟩,
 ⟨(some 17), (.call (.c (.l (.clos 100 []))) [(.t 14), (.t 16)]), (some (13, true))⟩,
 ⟨(some 18), (.pick (.t 13) (.t 17) (.c (.l (.v (.bool false))))), none⟩,
 ⟨(some 6), (.mov (.t 18)), none⟩] [])
 .ret)))
theorem c103_eq : Try.f103.body.bind (comp Try.prog Try.f103.ntmps) = some c103 := by kernel_rfl

/-- loop.example/collabdoc/spec.isZero: params 1, results [2] -/
def c104 : ACode :=
 (.seq
 (.reg [
 ⟨(some 1), (.box (.t 0)), none⟩,
 ⟨(some 2), (.mov (.c (.l (.v (.bool false))))), none⟩] [])
 (.seq
 (.reg [
 ⟨(some 3), (.load 2 true (.t 1)), none⟩,
 ⟨(some 4), (.build [(.v (.int .i64 0)), (.v (.int .i64 0))] []), none⟩,
 ⟨(some 5), (.eqs false [(.i .i64), (.i .i64)] (.t 3) (.t 4)), none⟩,
 ⟨(some 2), (.mov (.t 5)), none⟩] [])
 .ret))
theorem c104_eq : Try.f104.body.bind (comp Try.prog Try.f104.ntmps) = some c104 := by kernel_rfl

/-- loop.example/collabdoc/spec.validWord: params 1, results [2] -/
def c105 : ACode :=
 (.seq
 (.reg [
 ⟨(some 2), (.mov (.c (.l (.v (.bool false))))), none⟩] [])
 (.seq
 (.seq
 (.reg [
 ⟨(some 3), (.mov (.c (.l (.v (.int .i64 0))))), none⟩] [])
 (.block 0
 (.loop
 (.seq
 (.seq
 (.reg [
 ⟨(some 4), (.mov (.t 3)), none⟩,
 ⟨(some 5), (.mov (.t 0)), none⟩,
 ⟨(some 6), (.slen (.t 5)), none⟩,
 ⟨(some 7), (.bin .lss (.t 4) (.t 6)), none⟩] [])
 (.cond (.t 7)
 .skip
 (.exit 0)))
 (.seq
 (.block 1
 (.seq
 (.reg [
 ⟨(some 10), (.mov (.t 0)), none⟩,
 ⟨(some 11), (.mov (.t 3)), none⟩,
 ⟨(some 12), (.istr (.t 10) (.t 11)), none⟩,
 ⟨(some 13), (.bin .lss (.t 12) (.c (.l (.v (.int .u8 97))))), none⟩,
 ⟨(some 14), (.mov (.t 13)), none⟩,
 ⟨(some 15), (.mov (.t 0)), (some (14, false))⟩,
 ⟨(some 16), (.mov (.t 3)), (some (14, false))⟩,
 ⟨(some 17), (.istr (.t 15) (.t 16)), (some (14, false))⟩,
 ⟨(some 18), (.bin .gtr (.t 17) (.c (.l (.v (.int .u8 122))))), (some (14, false))⟩,
 ⟨(some 19), (.pick (.t 14) (.c (.l (.v (.bool true)))) (.t 18)), none⟩] [])
 (.cond (.t 19)
 (.seq
 (.reg [
 ⟨(some 2), (.mov (.c (.l (.v (.bool false))))), none⟩] [])
 .ret)
 .skip)))
 (.reg [
 ⟨(some 8), (.mov (.t 3)), none⟩,
 ⟨(some 9), (.bin .add (.t 8) (.c (.l (.v (.int .i64 1))))), none⟩,
 ⟨(some 3), (.mov (.t 9)), none⟩] []))))))
 (.seq
 (.reg [
 ⟨(some 20), (.mov (.t 0)), none⟩,
 ⟨(some 21), (.slen (.t 20)), none⟩,
 ⟨(some 22), (.call (.c (.l (.clos 101 []))) [(.t 21), (.c (.l (.v (.int .i64 1)))), (.c (.l (.v (.int .i64 8))))]), none⟩,
 ⟨(some 2), (.mov (.t 22)), none⟩] [])
 .ret)))
theorem c105_eq : Try.f105.body.bind (comp Try.prog Try.f105.ntmps) = some c105 := by kernel_rfl

/-- loop.example/collabdoc/laws.szMessage: params 2, results [4] -/
def c106 : ACode :=
 (.seq
 (.reg [
 ⟨(some 2), (.box (.t 0)), none⟩,
 ⟨(some 4), (.mov (.c (.l (.v (.int .i64 0))))), none⟩] [])
 (.seq
 (.reg [
 ⟨(some 5), (.faddr 0 (.t 2)), none⟩,
 ⟨(some 6), (.load 12 true (.t 5)), none⟩,
 ⟨(some 7), (.mov (.t 1)), none⟩,
 ⟨(some 8), (.call (.c (.l (.clos 59 []))) [(.t 6), (.t 7)]), none⟩,
 ⟨(some 1), (.mov (.t 8)), none⟩] [])
 (.seq
 (.seq
 (.reg [
 ⟨(some 9), (.mov (.t 1)), none⟩,
 ⟨(some 10), (.bin .lss (.t 9) (.c (.l (.v (.int .i64 0))))), none⟩] [])
 (.cond (.t 10)
 (.seq
 (.reg [
 ⟨(some 4), (.mov (.c (.l (.v (.int .i64 (-1)))))), none⟩] [])
 .ret)
 .skip))
 (.seq
 (.reg [
 ⟨(some 11), (.mov (.t 1)), none⟩,
 ⟨(some 4), (.mov (.t 11)), none⟩] [])
 .ret))))
theorem c106_eq : Try.f106.body.bind (comp Try.prog Try.f106.ntmps) = some c106 := by kernel_rfl

/-- loop.example/collabdoc/spec.validMessage: params 1, results [2] -/
def c107 : ACode :=
 (.seq
 (.reg [
 ⟨(some 1), (.box (.t 0)), none⟩,
 ⟨(some 2), (.mov (.c (.l (.v (.bool false))))), none⟩] [])
 (.seq
 (.reg [
 ⟨(some 3), (.faddr 0 (.t 1)), none⟩,
 ⟨(some 4), (.load 12 true (.t 3)), none⟩,
 ⟨(some 5), (.call (.c (.l (.clos 66 []))) [(.t 4)]), none⟩,
 ⟨(some 6), (.mov (.t 5)), none⟩,
 ⟨(some 7), (.faddr 12 (.t 1)), (some (6, true))⟩,
 ⟨(some 8), (.load 1 false (.t 7)), (some (6, true))⟩,
 ⟨(some 9), (.faddr 0 (.t 1)), (some (6, true))⟩,
 ⟨(some 10), (.faddr 0 (.t 9)), (some (6, true))⟩,
 ⟨(some 11), (.faddr 0 (.t 10)), (some (6, true))⟩,
 ⟨(some 12), (.load 1 false (.t 11)), (some (6, true))⟩,
 ⟨(some 13), (.bin .sub (.t 12) (.c (.l (.v (.int .i64 1))))), (some (6, true))⟩,
 ⟨(some 14), (.call (.c (.l (.clos 101 []))) [(.t 8), (.c (.l (.v (.int .i64 0)))), (.t 13)]), (some (6, true))⟩,
 ⟨(some 15), (.pick (.t 6) (.t 14) (.c (.l (.v (.bool false))))), none⟩,
 ⟨(some 2), (.mov (.t 15)), none⟩] [])
 .ret))
theorem c107_eq : Try.f107.body.bind (comp Try.prog Try.f107.ntmps) = some c107 := by kernel_rfl

/-- loop.example/collabdoc/laws.toMessage: params 1, results [CELL 2] -/
def c108 : ACode :=
 (.seq
 (.reg [
 ⟨(some 1), (.box (.t 0)), none⟩,
 ⟨(some 2), (.alloc [(.v (.int .i64 0)), (.v (.int .i64 0)), (.v (.int .i64 0)), (.v (.int .i64 0)), (.v (.int .i64 0)), (.v (.int .i64 0)), (.v (.int .i64 0)), (.v (.int .i64 0)), (.v (.int .i64 0)), (.v (.int .i64 0)), (.v (.bool false)), (.v (.string ⟨#[]⟩)), (.v (.int .i64 0))]), none⟩] [])
 (.seq
 (.reg [
 ⟨(some 3), (.alloc [(.v (.int .i64 0)), (.v (.int .i64 0)), (.v (.int .i64 0)), (.v (.int .i64 0)), (.v (.int .i64 0)), (.v (.int .i64 0)), (.v (.int .i64 0)), (.v (.int .i64 0)), (.v (.int .i64 0)), (.v (.int .i64 0)), (.v (.bool false)), (.v (.string ⟨#[]⟩)), (.v (.int .i64 0))]), none⟩] [])
 (.seq
 (.reg [
 ⟨(some 4), (.faddr 0 (.t 1)), none⟩,
 ⟨(some 5), (.load 12 true (.t 4)), none⟩,
 ⟨(some 6), (.call (.c (.l (.clos 62 []))) [(.t 5)]), none⟩,
 ⟨(some 7), (.faddr 0 (.t 3)), none⟩,
 ⟨none, (.store 12 (.t 7) (.t 6)), none⟩] [])
 (.seq
 (.reg [
 ⟨(some 8), (.faddr 12 (.t 1)), none⟩,
 ⟨(some 9), (.load 1 false (.t 8)), none⟩,
 ⟨(some 10), (.faddr 12 (.t 3)), none⟩,
 ⟨none, (.store 1 (.t 10) (.t 9)), none⟩] [])
 (.seq
 (.reg [
 ⟨(some 11), (.load 13 true (.t 3)), none⟩,
 ⟨none, (.store 13 (.t 2) (.t 11)), none⟩] [])
 .ret)))))
theorem c108_eq : Try.f108.body.bind (comp Try.prog Try.f108.ntmps) = some c108 := by kernel_rfl

/-- loop.example/collabdoc/impl.ValidOp$1: params 1, results [3] -/
def c110 : ACode :=
 (.seq
 (.reg [
 ⟨(some 2), (.box (.t 0)), none⟩,
 ⟨(some 3), (.mov (.c (.l (.v (.bool false))))), none⟩] [])
 (.seq
 (.reg [
 ⟨(some 4), (.load 2 true (.t 2)), none⟩,
 ⟨(some 5), (.call (.c (.l (.clos 111 []))) [(.t 4)]), none⟩,
 ⟨(some 6), (.mov (.t 5)), none⟩,
 ⟨(some 7), (.load 2 true (.t 2)), (some (6, true))⟩,
 ⟨(some 8), (.faddr 0 (.t 1)), (some (6, true))⟩,
 ⟨(some 9), (.load 2 true (.t 8)), (some (6, true))⟩,
 ⟨(some 10), (.call (.c (.l (.clos 40 []))) [(.t 7), (.t 9)]), (some (6, true))⟩,
 ⟨(some 11), (.pick (.t 6) (.t 10) (.c (.l (.v (.bool false))))), none⟩,
 ⟨(some 3), (.mov (.t 11)), none⟩] [])
 .ret))
theorem c110_eq : Try.f110.body.bind (comp Try.prog Try.f110.ntmps) = some c110 := by kernel_rfl

/-- loop.example/collabdoc/impl.ValidStamp: params 1, results [2] -/
def c111 : ACode :=
 (.seq
 (.reg [
 ⟨(some 1), (.box (.t 0)), none⟩,
 ⟨(some 2), (.mov (.c (.l (.v (.bool false))))), none⟩] [])
 (.seq
 (.reg [
 ⟨(some 3), (.faddr 0 (.t 1)), none⟩,
 ⟨(some 4), (.load 1 false (.t 3)), none⟩,
 ⟨(some 5), (.bin .geq (.t 4) (.c (.l (.v (.int .i64 1))))), none⟩,
 ⟨(some 6), (.mov (.t 5)), none⟩,
 ⟨(some 7), (.faddr 0 (.t 1)), (some (6, true))⟩,
 ⟨(some 8), (.load 1 false (.t 7)), (some (6, true))⟩,
 ⟨(some 9), (.bin .leq (.t 8) (.c (.l (.v (.int .i64 99))))), (some (6, true))⟩,
 ⟨(some 10), (.pick (.t 6) (.t 9) (.c (.l (.v (.bool false))))), none⟩,
 ⟨(some 11), (.mov (.t 10)), none⟩,
 ⟨(some 12), (.faddr 1 (.t 1)), (some (11, true))⟩,
 ⟨(some 13), (.load 1 false (.t 12)), (some (11, true))⟩,
 ⟨(some 14), (.call (.c (.l (.clos 73 []))) [(.t 13)]), (some (11, true))⟩,
 ⟨(some 15), (.pick (.t 11) (.t 14) (.c (.l (.v (.bool false))))), none⟩,
 ⟨(some 2), (.mov (.t 15)), none⟩] [])
 .ret))
theorem c111_eq : Try.f111.body.bind (comp Try.prog Try.f111.ntmps) = some c111 := by kernel_rfl

/-- loop.example/collabdoc/impl.ValidOp$2: params 1, results [3] -/
def c112 : ACode :=
 (.seq
 (.reg [
 ⟨(some 2), (.box (.t 0)), none⟩,
 ⟨(some 3), (.mov (.c (.l (.v (.bool false))))), none⟩] [])
 (.seq
 (.reg [
 ⟨(some 4), (.load 2 true (.t 2)), none⟩,
 ⟨(some 5), (.build [(.v (.int .i64 0)), (.v (.int .i64 0))] []), none⟩,
 ⟨(some 6), (.eqs false [(.i .i64), (.i .i64)] (.t 4) (.t 5)), none⟩,
 ⟨(some 7), (.mov (.t 6)), none⟩,
 ⟨(some 8), (.load 1 false (.t 1)), (some (7, false))⟩,
 ⟨(some 9), (.load 2 true (.t 2)), (some (7, false))⟩,
 ⟨(some 10), (.call (.t 8) [(.t 9)]), (some (7, false))⟩,
 ⟨(some 11), (.pick (.t 7) (.c (.l (.v (.bool true)))) (.t 10)), none⟩,
 ⟨(some 3), (.mov (.t 11)), none⟩] [])
 .ret))
theorem c112_eq : Try.f112.body.bind (comp Try.prog Try.f112.ntmps) = some c112 := by kernel_rfl

/-- loop.example/collabdoc/impl.isWord: params 1, results [2] -/
def c113 : ACode :=
 (.seq
 (.reg [
 ⟨(some 2), (.mov (.c (.l (.v (.bool false))))), none⟩] [])
 (.seq
 (.seq
 (.reg [
 ⟨(some 3), (.mov (.c (.l (.v (.int .i64 0))))), none⟩] [])
 (.block 0
 (.loop
 (.seq
 (.seq
 (.reg [
 ⟨(some 4), (.mov (.t 3)), none⟩,
 ⟨(some 5), (.mov (.t 0)), none⟩,
 ⟨(some 6), (.slen (.t 5)), none⟩,
 ⟨(some 7), (.bin .lss (.t 4) (.t 6)), none⟩] [])
 (.cond (.t 7)
 .skip
 (.exit 0)))
 (.seq
 (.block 1
 (.seq
 (.reg [
 ⟨(some 10), (.mov (.t 0)), none⟩,
 ⟨(some 11), (.mov (.t 3)), none⟩,
 ⟨(some 12), (.istr (.t 10) (.t 11)), none⟩,
 ⟨(some 13), (.bin .lss (.t 12) (.c (.l (.v (.int .u8 97))))), none⟩,
 ⟨(some 14), (.mov (.t 13)), none⟩,
 ⟨(some 15), (.mov (.t 0)), (some (14, false))⟩,
 ⟨(some 16), (.mov (.t 3)), (some (14, false))⟩,
 ⟨(some 17), (.istr (.t 15) (.t 16)), (some (14, false))⟩,
 ⟨(some 18), (.bin .gtr (.t 17) (.c (.l (.v (.int .u8 122))))), (some (14, false))⟩,
 ⟨(some 19), (.pick (.t 14) (.c (.l (.v (.bool true)))) (.t 18)), none⟩] [])
 (.cond (.t 19)
 (.seq
 (.reg [
 ⟨(some 2), (.mov (.c (.l (.v (.bool false))))), none⟩] [])
 .ret)
 .skip)))
 (.reg [
 ⟨(some 8), (.mov (.t 3)), none⟩,
 ⟨(some 9), (.bin .add (.t 8) (.c (.l (.v (.int .i64 1))))), none⟩,
 ⟨(some 3), (.mov (.t 9)), none⟩] []))))))
 (.seq
 (.reg [
 ⟨(some 20), (.mov (.t 0)), none⟩,
 ⟨(some 21), (.slen (.t 20)), none⟩,
 ⟨(some 22), (.bin .geq (.t 21) (.c (.l (.v (.int .i64 1))))), none⟩,
 ⟨(some 23), (.mov (.t 22)), none⟩,
 ⟨(some 24), (.mov (.t 0)), (some (23, true))⟩,
 ⟨(some 25), (.slen (.t 24)), (some (23, true))⟩,
 ⟨(some 26), (.bin .leq (.t 25) (.c (.l (.v (.int .i64 8))))), (some (23, true))⟩,
 ⟨(some 27), (.pick (.t 23) (.t 26) (.c (.l (.v (.bool false))))), none⟩,
 ⟨(some 2), (.mov (.t 27)), none⟩] [])
 .ret)))
theorem c113_eq : Try.f113.body.bind (comp Try.prog Try.f113.ntmps) = some c113 := by kernel_rfl
end Go.Proofs
