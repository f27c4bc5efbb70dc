/-
  The functions of the seat in the small language: printed by a program (wip/tools/irdump.lean), each held against the model's code. No condition.
-/
import Derived.Test.YtbjefkkbmbgakaaTyped
import Derived.Test.YtbjefkkbmbgakaaRows
namespace Go.Proofs.Ytbjefkkbmbgakaa
namespace A
set_option linter.unusedVariables false
/- loop.example/g03011/laws.FnExactFindSession -/
def F4 : Fun := ⟨34,
  .seq (.reg [o 4 (.mv (.c (.bool false)))])
  (.seq (.seq (.reg [o 9 (.mv (.t 1)), o 10 (.lenS (.t 9)), o 11 (.bin .gtr (.t 10) (.c (.int .i64 1048576)))])
  (.cond (.t 11) (.seq (.reg [o 4 (.mv (.c (.bool true)))])
   (.ret)) (.skip)))
  (.seq (.reg [o 5 (.mv (.c (.int .i64 1048576)))])
  (.seq (.reg [o 12 (.mv (.t 0)), o 13 (.mv (.t 5)), o 14 (.call 11 [(.t 12), (.t 13)]), o 5 (.mv (.t 14))])
  (.seq (.seq (.reg [o 15 (.mv (.t 5)), o 16 (.bin .lss (.t 15) (.c (.int .i64 0)))])
  (.cond (.t 16) (.seq (.reg [o 4 (.mv (.c (.bool true)))])
   (.ret)) (.skip)))
  (.seq (.reg [o 17 (.mv (.t 0)), o 18 (.call 13 [(.t 17)]), o 19 (.mv (.t 1)), o 20 (.call 12 [(.t 18), (.t 19)]), o 6 (.mv (.t 20))])
  (.seq (.reg [o 21 (.mv (.t 0)), o 22 (.call 13 [(.t 21)]), o 7 (.mv (.t 22))])
  (.seq (.reg [o 23 (.mv (.t 7)), o 24 (.mv (.t 1)), o 25 (.call 14 [(.t 23), (.t 24)]), o 8 (.mv (.t 25))])
  (.seq (.seq (.reg [o 26 (.mv (.t 8)), o 27 (.mv (.t 6)), o 28 (.bin .neq (.t 26) (.t 27))])
  (.cond (.t 28) (.seq (.reg [o 4 (.mv (.c (.bool false)))])
   (.ret)) (.skip)))
  (.seq (.seq (.reg [o 29 (.mv (.t 7)), o 30 (.mv (.t 0)), o 31 (.call 13 [(.t 30)]), o 32 (.call 15 [(.t 29), (.t 31)]), o 33 (.un .not (.t 32))])
  (.cond (.t 33) (.seq (.reg [o 4 (.mv (.c (.bool false)))])
   (.ret)) (.skip)))
  (.seq (.reg [o 4 (.mv (.c (.bool true)))])
  (.ret))))))))))),
  [.tmp 4]⟩
/- loop.example/g03011/laws.FnExactNewLines -/
def F5 : Fun := ⟨36,
  .seq (.reg [o 0 (.mv (.c (.bool false)))])
  (.seq (.reg [o 6 (.call 16 []), o 1 (.mv (.t 6))])
  (.seq (.reg [o 7 (.call 17 []), o 2 (.mv (.t 7))])
  (.seq (.seq (.reg [o 8 (.mv (.t 2)), o 9 (.mv (.t 1)), o 10 (.call 18 [(.t 8), (.t 9)]), o 11 (.un .not (.t 10))])
  (.cond (.t 11) (.seq (.reg [o 0 (.mv (.c (.bool false)))])
   (.ret)) (.skip)))
  (.seq (.reg [o 3 (.mv (.c (.int .i64 1)))])
  (.seq (.reg [o 12 (.mv (.t 2)), o 13 (.mv (.t 3)), o 14 (.call 19 [(.t 12), (.t 13)]), o 3 (.mv (.t 14))])
  (.seq (.reg [o 4 (.mv (.c (.int .i64 1)))])
  (.seq (.reg [o 15 (.mv (.t 2)), o 16 (.mv (.t 4)), o 17 (.call 20 [(.t 15), (.t 16)]), o 4 (.mv (.t 17))])
  (.seq (.seq (.reg [o 18 (.mv (.t 4)), o 19 (.bin .lss (.t 18) (.c (.int .i64 0)))])
  (.cond (.t 19) (.seq (.reg [o 0 (.mv (.c (.bool false)))])
   (.ret)) (.skip)))
  (.seq (.seq (.reg [o 20 (.mv (.t 4)), o 21 (.mv (.t 3)), o 22 (.bin .neq (.t 20) (.t 21))])
  (.cond (.t 22) (.seq (.reg [o 0 (.mv (.c (.bool false)))])
   (.ret)) (.skip)))
  (.seq (.reg [o 23 (.call 17 []), o 5 (.mv (.t 23))])
  (.seq (.seq (.reg [o 24 (.mv (.t 5)), o 25 (.mv (.t 1)), o 26 (.call 18 [(.t 24), (.t 25)]), o 27 (.un .not (.t 26))])
  (.cond (.t 27) (.seq (.reg [o 0 (.mv (.c (.bool false)))])
   (.ret)) (.skip)))
  (.seq (.reg [o 4 (.mv (.c (.int .i64 1)))])
  (.seq (.reg [o 28 (.mv (.t 2)), o 29 (.mv (.t 4)), o 30 (.call 20 [(.t 28), (.t 29)]), o 4 (.mv (.t 30))])
  (.seq (.seq (.reg [o 31 (.mv (.t 4)), o 32 (.bin .lss (.t 31) (.c (.int .i64 0)))])
  (.cond (.t 32) (.seq (.reg [o 0 (.mv (.c (.bool false)))])
   (.ret)) (.skip)))
  (.seq (.seq (.reg [o 33 (.mv (.t 4)), o 34 (.mv (.t 3)), o 35 (.bin .neq (.t 33) (.t 34))])
  (.cond (.t 35) (.seq (.reg [o 0 (.mv (.c (.bool false)))])
   (.ret)) (.skip)))
  (.seq (.reg [o 0 (.mv (.c (.bool true)))])
  (.ret))))))))))))))))),
  [.tmp 0]⟩
/- loop.example/g03011/laws.FnExactAreLines -/
def F6 : Fun := ⟨27,
  .seq (.reg [o 2 (.mv (.c (.bool false)))])
  (.seq (.reg [o 3 (.mv (.c (.int .i64 1048576)))])
  (.seq (.reg [o 7 (.mv (.t 0)), o 8 (.mv (.t 3)), o 9 (.call 21 [(.t 7), (.t 8)]), o 3 (.mv (.t 9))])
  (.seq (.seq (.reg [o 10 (.mv (.t 3)), o 11 (.bin .lss (.t 10) (.c (.int .i64 0)))])
  (.cond (.t 11) (.seq (.reg [o 2 (.mv (.c (.bool true)))])
   (.ret)) (.skip)))
  (.seq (.reg [o 12 (.mv (.t 0)), o 13 (.call 23 [(.t 12)]), o 14 (.call 22 [(.t 13)]), o 4 (.mv (.t 14))])
  (.seq (.reg [o 15 (.mv (.t 0)), o 16 (.call 23 [(.t 15)]), o 5 (.mv (.t 16))])
  (.seq (.reg [o 17 (.mv (.t 5)), o 18 (.call 24 [(.t 17)]), o 6 (.mv (.t 18))])
  (.seq (.seq (.reg [o 19 (.mv (.t 6)), o 20 (.mv (.t 4)), o 21 (.binb .neq (.t 19) (.t 20))])
  (.cond (.t 21) (.seq (.reg [o 2 (.mv (.c (.bool false)))])
   (.ret)) (.skip)))
  (.seq (.seq (.reg [o 22 (.mv (.t 5)), o 23 (.mv (.t 0)), o 24 (.call 23 [(.t 23)]), o 25 (.call 18 [(.t 22), (.t 24)]), o 26 (.un .not (.t 25))])
  (.cond (.t 26) (.seq (.reg [o 2 (.mv (.c (.bool false)))])
   (.ret)) (.skip)))
  (.seq (.reg [o 2 (.mv (.c (.bool true)))])
  (.ret)))))))))),
  [.tmp 2]⟩
/- loop.example/g03011/laws.FnExactSameResponse -/
def F7 : Fun := ⟨45,
  .seq (.reg [o 2 (.box 3 (.t 0)), o 3 (.box 3 (.t 1)), o 4 (.mv (.c (.bool false)))])
  (.seq (.reg [o 5 (.mv (.c (.int .i64 1048576)))])
  (.seq (.reg [o 10 (.load (some 3) (.t 2)), o 11 (.mv (.t 5)), o 12 (.call 25 [(.t 10), (.t 11)]), o 5 (.mv (.t 12))])
  (.seq (.seq (.reg [o 13 (.mv (.t 5)), o 14 (.bin .lss (.t 13) (.c (.int .i64 0)))])
  (.cond (.t 14) (.seq (.reg [o 4 (.mv (.c (.bool true)))])
   (.ret)) (.skip)))
  (.seq (.reg [o 15 (.load (some 3) (.t 3)), o 16 (.mv (.t 5)), o 17 (.call 25 [(.t 15), (.t 16)]), o 5 (.mv (.t 17))])
  (.seq (.seq (.reg [o 18 (.mv (.t 5)), o 19 (.bin .lss (.t 18) (.c (.int .i64 0)))])
  (.cond (.t 19) (.seq (.reg [o 4 (.mv (.c (.bool true)))])
   (.ret)) (.skip)))
  (.seq (.draw [o 20 (.load (some 3) (.t 2)), o 21 (.callF 27 [(.t 20)]), o 22 (.load (some 3) (.t 3)), o 23 (.callF 27 [(.t 22)]), o 24 (.callF 26 [(.t 21), (.t 23)]), o 6 (.mv (.t 24))])
  (.seq (.reg [o 25 (.load (some 3) (.t 2)), o 26 (.call 27 [(.t 25)]), o 7 (.new 3 [(.int .i64 0), .nsl, (.str [])]), st (.store 3 (.t 7) (.t 26))])
  (.seq (.reg [o 27 (.load (some 3) (.t 3)), o 28 (.call 27 [(.t 27)]), o 8 (.new 3 [(.int .i64 0), .nsl, (.str [])]), st (.store 3 (.t 8) (.t 28))])
  (.seq (.reg [o 29 (.load (some 3) (.t 7)), o 30 (.load (some 3) (.t 8)), o 31 (.call 28 [(.t 29), (.t 30)]), o 9 (.mv (.t 31))])
  (.seq (.seq (.reg [o 32 (.mv (.t 9)), o 33 (.mv (.t 6)), o 34 (.binb .neq (.t 32) (.t 33))])
  (.cond (.t 34) (.seq (.reg [o 4 (.mv (.c (.bool false)))])
   (.ret)) (.skip)))
  (.seq (.seq (.draw [o 35 (.load (some 3) (.t 7)), o 36 (.load (some 3) (.t 2)), o 37 (.callF 27 [(.t 36)]), o 38 (.callF 29 [(.t 35), (.t 37)]), o 39 (.un .not (.t 38))])
  (.cond (.t 39) (.seq (.reg [o 4 (.mv (.c (.bool false)))])
   (.ret)) (.skip)))
  (.seq (.seq (.draw [o 40 (.load (some 3) (.t 8)), o 41 (.load (some 3) (.t 3)), o 42 (.callF 27 [(.t 41)]), o 43 (.callF 29 [(.t 40), (.t 42)]), o 44 (.un .not (.t 43))])
  (.cond (.t 44) (.seq (.reg [o 4 (.mv (.c (.bool false)))])
   (.ret)) (.skip)))
  (.seq (.reg [o 4 (.mv (.c (.bool true)))])
  (.ret)))))))))))))),
  [.tmp 4]⟩
/- loop.example/g03011/laws.FnExactAreActors -/
def F8 : Fun := ⟨27,
  .seq (.reg [o 2 (.mv (.c (.bool false)))])
  (.seq (.reg [o 3 (.mv (.c (.int .i64 1048576)))])
  (.seq (.reg [o 7 (.mv (.t 0)), o 8 (.mv (.t 3)), o 9 (.call 30 [(.t 7), (.t 8)]), o 3 (.mv (.t 9))])
  (.seq (.seq (.reg [o 10 (.mv (.t 3)), o 11 (.bin .lss (.t 10) (.c (.int .i64 0)))])
  (.cond (.t 11) (.seq (.reg [o 2 (.mv (.c (.bool true)))])
   (.ret)) (.skip)))
  (.seq (.reg [o 12 (.mv (.t 0)), o 13 (.call 32 [(.t 12)]), o 14 (.call 31 [(.t 13)]), o 4 (.mv (.t 14))])
  (.seq (.reg [o 15 (.mv (.t 0)), o 16 (.call 32 [(.t 15)]), o 5 (.mv (.t 16))])
  (.seq (.reg [o 17 (.mv (.t 5)), o 18 (.call 33 [(.t 17)]), o 6 (.mv (.t 18))])
  (.seq (.seq (.reg [o 19 (.mv (.t 6)), o 20 (.mv (.t 4)), o 21 (.binb .neq (.t 19) (.t 20))])
  (.cond (.t 21) (.seq (.reg [o 2 (.mv (.c (.bool false)))])
   (.ret)) (.skip)))
  (.seq (.seq (.reg [o 22 (.mv (.t 5)), o 23 (.mv (.t 0)), o 24 (.call 32 [(.t 23)]), o 25 (.call 34 [(.t 22), (.t 24)]), o 26 (.un .not (.t 25))])
  (.cond (.t 26) (.seq (.reg [o 2 (.mv (.c (.bool false)))])
   (.ret)) (.skip)))
  (.seq (.reg [o 2 (.mv (.c (.bool true)))])
  (.ret)))))))))),
  [.tmp 2]⟩
/- loop.example/g03011/spec.Reason -/
def F9 : Fun := ⟨14,
  .seq (.reg [o 2 (.mv (.c (.str [])))])
  (.seq (.seq (.reg [o 3 (.mv (.t 0))])
  (.block 0 (.seq (.reg [o 5 (.bin .eql (.t 3) (.c (.int .i64 200))), o 4 (.mv (.t 5))])
   (.cond (.t 4) (.seq (.reg [o 2 (.mv (.c (.str [79, 75])))])
    (.ret)) (.seq (.reg [o 7 (.bin .eql (.t 3) (.c (.int .i64 400))), o 6 (.mv (.t 7))])
    (.cond (.t 6) (.seq (.reg [o 2 (.mv (.c (.str [66, 97, 100, 32, 82, 101, 113, 117, 101, 115, 116])))])
     (.ret)) (.seq (.reg [o 9 (.bin .eql (.t 3) (.c (.int .i64 404))), o 8 (.mv (.t 9))])
     (.cond (.t 8) (.seq (.reg [o 2 (.mv (.c (.str [78, 111, 116, 32, 70, 111, 117, 110, 100])))])
      (.ret)) (.seq (.reg [o 11 (.bin .eql (.t 3) (.c (.int .i64 500))), o 10 (.mv (.t 11))])
      (.cond (.t 10) (.seq (.reg [o 2 (.mv (.c (.str [69, 114, 114, 111, 114])))])
       (.ret)) (.seq (.reg [o 13 (.bin .eql (.t 3) (.c (.int .i64 503))), o 12 (.mv (.t 13))])
       (.cond (.t 12) (.seq (.reg [o 2 (.mv (.c (.str [66, 117, 115, 121])))])
        (.ret)) (.skip)))))))))))))
  (.seq (.reg [o 2 (.mv (.c (.str [])))])
  (.ret))),
  [.tmp 2]⟩
/- loop.example/g03011/impl.Reason -/
def F10 : Fun := ⟨14,
  .seq (.reg [o 2 (.mv (.c (.str [])))])
  (.seq (.seq (.reg [o 3 (.mv (.t 0))])
  (.block 0 (.seq (.reg [o 5 (.bin .eql (.t 3) (.c (.int .i64 200))), o 4 (.mv (.t 5))])
   (.cond (.t 4) (.seq (.reg [o 2 (.mv (.c (.str [79, 75])))])
    (.ret)) (.seq (.reg [o 7 (.bin .eql (.t 3) (.c (.int .i64 400))), o 6 (.mv (.t 7))])
    (.cond (.t 6) (.seq (.reg [o 2 (.mv (.c (.str [66, 97, 100, 32, 82, 101, 113, 117, 101, 115, 116])))])
     (.ret)) (.seq (.reg [o 9 (.bin .eql (.t 3) (.c (.int .i64 404))), o 8 (.mv (.t 9))])
     (.cond (.t 8) (.seq (.reg [o 2 (.mv (.c (.str [78, 111, 116, 32, 70, 111, 117, 110, 100])))])
      (.ret)) (.seq (.reg [o 11 (.bin .eql (.t 3) (.c (.int .i64 500))), o 10 (.mv (.t 11))])
      (.cond (.t 10) (.seq (.reg [o 2 (.mv (.c (.str [69, 114, 114, 111, 114])))])
       (.ret)) (.seq (.reg [o 13 (.bin .eql (.t 3) (.c (.int .i64 503))), o 12 (.mv (.t 13))])
       (.cond (.t 12) (.seq (.reg [o 2 (.mv (.c (.str [66, 117, 115, 121])))])
        (.ret)) (.skip)))))))))))))
  (.seq (.reg [o 2 (.mv (.c (.str [])))])
  (.ret))),
  [.tmp 2]⟩
/- loop.example/g03011/laws.szSessionS -/
def F11 : Fun := ⟨27,
  .seq (.reg [o 4 (.mv (.c (.int .i64 0)))])
  (.seq (.reg [o 6 (.mv (.t 1)), o 7 (.mv (.t 0)), o 8 (.lenL (.t 7)), o 9 (.bin .sub (.t 6) (.t 8)), o 1 (.mv (.t 9))])
  (.seq (.seq (.reg [o 10 (.mv (.t 1)), o 11 (.bin .lss (.t 10) (.c (.int .i64 0)))])
  (.cond (.t 11) (.seq (.reg [o 4 (.mv (.c (.int .i64 (-1))))])
   (.ret)) (.skip)))
  (.seq (.seq (.reg [o 5 (.mv (.c (.int .i64 0)))])
  (.block 0 (.loop (.seq (.seq (.reg [o 12 (.mv (.t 5)), o 13 (.mv (.t 0)), o 14 (.lenL (.t 13)), o 15 (.bin .lss (.t 12) (.t 14))])
    (.cond (.t 15) (.skip) (.exit 0)))
    (.seq (.block 1 (.seq (.reg [o 18 (.mv (.t 0)), o 19 (.mv (.t 5)), o 20 (.iaddr 4 (.t 18) (.t 19)), o 21 (.load (some 4) (.t 20)), o 22 (.mv (.t 1)), o 23 (.call 35 [(.t 21), (.t 22)]), o 1 (.mv (.t 23))])
     (.seq (.reg [o 24 (.mv (.t 1)), o 25 (.bin .lss (.t 24) (.c (.int .i64 0)))])
     (.cond (.t 25) (.seq (.reg [o 4 (.mv (.c (.int .i64 (-1))))])
      (.ret)) (.skip)))))
    (.reg [o 16 (.mv (.t 5)), o 17 (.bin .add (.t 16) (.c (.int .i64 1))), o 5 (.mv (.t 17))]))))))
  (.seq (.reg [o 26 (.mv (.t 1)), o 4 (.mv (.t 26))])
  (.ret))))),
  [.tmp 4]⟩
/- loop.example/g03011/spec.FindSession -/
def F12 : Fun := ⟨20,
  .seq (.reg [o 4 (.mv (.c (.int .i64 0)))])
  (.seq (.seq (.reg [o 5 (.mv (.c (.int .i64 0)))])
  (.block 0 (.loop (.seq (.seq (.reg [o 6 (.mv (.t 5)), o 7 (.mv (.t 0)), o 8 (.lenL (.t 7)), o 9 (.bin .lss (.t 6) (.t 8))])
    (.cond (.t 9) (.skip) (.exit 0)))
    (.seq (.block 1 (.seq (.reg [o 12 (.mv (.t 0)), o 13 (.mv (.t 5)), o 14 (.iaddr 4 (.t 12) (.t 13)), o 15 (.faddr 0 (.t 14)), o 16 (.load none (.t 15)), o 17 (.mv (.t 1)), o 18 (.bin .eql (.t 16) (.t 17))])
     (.cond (.t 18) (.seq (.reg [o 19 (.mv (.t 5)), o 4 (.mv (.t 19))])
      (.ret)) (.skip))))
    (.reg [o 10 (.mv (.t 5)), o 11 (.bin .add (.t 10) (.c (.int .i64 1))), o 5 (.mv (.t 11))]))))))
  (.seq (.reg [o 4 (.mv (.c (.int .i64 (-1))))])
  (.ret))),
  [.tmp 4]⟩
/- loop.example/g03011/laws.toSessionS -/
def F13 : Fun := ⟨23,
  .seq (.reg [o 2 (.mv (.c .nsl))])
  (.seq (.reg [o 5 (.mv (.t 0)), o 6 (.lenL (.t 5)), o 7 (.mkslice 4 [(.str []), (.str []), (.int .i64 0), (.int .i64 0)] 48 (.t 6) (.t 6)), o 3 (.mv (.t 7))])
  (.seq (.seq (.reg [o 4 (.mv (.c (.int .i64 0)))])
  (.block 0 (.loop (.seq (.seq (.reg [o 8 (.mv (.t 4)), o 9 (.mv (.t 0)), o 10 (.lenL (.t 9)), o 11 (.bin .lss (.t 8) (.t 10))])
    (.cond (.t 11) (.skip) (.exit 0)))
    (.seq (.block 1 (.reg [o 14 (.mv (.t 3)), o 15 (.mv (.t 4)), o 16 (.mv (.t 0)), o 17 (.mv (.t 4)), o 18 (.iaddr 4 (.t 16) (.t 17)), o 19 (.load (some 4) (.t 18)), o 20 (.call 36 [(.t 19)]), o 21 (.iaddr 4 (.t 14) (.t 15)), st (.store 4 (.t 21) (.t 20))]))
    (.reg [o 12 (.mv (.t 4)), o 13 (.bin .add (.t 12) (.c (.int .i64 1))), o 4 (.mv (.t 13))]))))))
  (.seq (.reg [o 22 (.mv (.t 3)), o 2 (.mv (.t 22))])
  (.ret)))),
  [.tmp 2]⟩
/- loop.example/g03011/impl.FindSession -/
def F14 : Fun := ⟨8,
  .seq (.reg [o 3 (.box 1 (.t 1)), o 4 (.mv (.c (.int .i64 0)))])
  (.seq (.reg [o 5 (.mv (.t 0)), o 6 (.mkfn 38 [(.t 3)]), o 7 (.call 37 [(.t 5), (.t 6)]), o 4 (.mv (.t 7))])
  (.ret)),
  [.tmp 4]⟩
/- loop.example/g03011/laws.eqSessionS -/
def F15 : Fun := ⟨27,
  .seq (.reg [o 4 (.mv (.c (.bool false)))])
  (.seq (.seq (.reg [o 6 (.mv (.t 0)), o 7 (.lenL (.t 6)), o 8 (.mv (.t 1)), o 9 (.lenL (.t 8)), o 10 (.bin .neq (.t 7) (.t 9))])
  (.cond (.t 10) (.seq (.reg [o 4 (.mv (.c (.bool false)))])
   (.ret)) (.skip)))
  (.seq (.seq (.reg [o 5 (.mv (.c (.int .i64 0)))])
  (.block 0 (.loop (.seq (.seq (.reg [o 11 (.mv (.t 5)), o 12 (.mv (.t 0)), o 13 (.lenL (.t 12)), o 14 (.bin .lss (.t 11) (.t 13))])
    (.cond (.t 14) (.skip) (.exit 0)))
    (.seq (.block 1 (.seq (.reg [o 17 (.mv (.t 0)), o 18 (.mv (.t 5)), o 19 (.iaddr 4 (.t 17) (.t 18)), o 20 (.load (some 4) (.t 19)), o 21 (.mv (.t 1)), o 22 (.mv (.t 5)), o 23 (.iaddr 4 (.t 21) (.t 22)), o 24 (.load (some 4) (.t 23)), o 25 (.callF 39 [(.t 20), (.t 24)]), o 26 (.un .not (.t 25))])
     (.cond (.t 26) (.seq (.reg [o 4 (.mv (.c (.bool false)))])
      (.ret)) (.skip))))
    (.reg [o 15 (.mv (.t 5)), o 16 (.bin .add (.t 15) (.c (.int .i64 1))), o 5 (.mv (.t 16))]))))))
  (.seq (.reg [o 4 (.mv (.c (.bool true)))])
  (.ret)))),
  [.tmp 4]⟩
/- loop.example/g03011/spec.NewLines -/
def F16 : Fun := ⟨2,
  .seq (.reg [o 0 (.mv (.c .nsl))])
  (.seq (.reg [o 1 (.mkslice 4 [(.int .i64 0), (.int .i64 0), (.int .i64 0), .nsl] 48 (.c (.int .i64 8)) (.c (.int .i64 8))), o 0 (.mv (.t 1))])
  (.ret)),
  [.tmp 0]⟩
/- loop.example/g03011/impl.NewLines -/
def F17 : Fun := ⟨2,
  .seq (.reg [o 0 (.mv (.c .nsl))])
  (.seq (.reg [o 1 (.mkslice 4 [(.int .i64 0), (.int .i64 0), (.int .i64 0), .nsl] 48 (.c (.int .i64 8)) (.c (.int .i64 8))), o 0 (.mv (.t 1))])
  (.ret)),
  [.tmp 0]⟩
/- loop.example/g03011/laws.eqLineS -/
def F18 : Fun := ⟨27,
  .seq (.reg [o 4 (.mv (.c (.bool false)))])
  (.seq (.seq (.reg [o 6 (.mv (.t 0)), o 7 (.lenL (.t 6)), o 8 (.mv (.t 1)), o 9 (.lenL (.t 8)), o 10 (.bin .neq (.t 7) (.t 9))])
  (.cond (.t 10) (.seq (.reg [o 4 (.mv (.c (.bool false)))])
   (.ret)) (.skip)))
  (.seq (.seq (.reg [o 5 (.mv (.c (.int .i64 0)))])
  (.block 0 (.loop (.seq (.seq (.reg [o 11 (.mv (.t 5)), o 12 (.mv (.t 0)), o 13 (.lenL (.t 12)), o 14 (.bin .lss (.t 11) (.t 13))])
    (.cond (.t 14) (.skip) (.exit 0)))
    (.seq (.block 1 (.seq (.reg [o 17 (.mv (.t 0)), o 18 (.mv (.t 5)), o 19 (.iaddr 4 (.t 17) (.t 18)), o 20 (.load (some 4) (.t 19)), o 21 (.mv (.t 1)), o 22 (.mv (.t 5)), o 23 (.iaddr 4 (.t 21) (.t 22)), o 24 (.load (some 4) (.t 23)), o 25 (.callF 40 [(.t 20), (.t 24)]), o 26 (.un .not (.t 25))])
     (.cond (.t 26) (.seq (.reg [o 4 (.mv (.c (.bool false)))])
      (.ret)) (.skip))))
    (.reg [o 15 (.mv (.t 5)), o 16 (.bin .add (.t 15) (.c (.int .i64 1))), o 5 (.mv (.t 16))]))))))
  (.seq (.reg [o 4 (.mv (.c (.bool true)))])
  (.ret)))),
  [.tmp 4]⟩
/- loop.example/g03011/laws.markLineS -/
def F19 : Fun := ⟨41,
  .seq (.reg [o 4 (.mv (.c (.int .i64 0)))])
  (.seq (.seq (.reg [o 5 (.mv (.c (.int .i64 0)))])
  (.block 0 (.loop (.seq (.seq (.reg [o 6 (.mv (.t 5)), o 7 (.mv (.t 0)), o 8 (.lenL (.t 7)), o 9 (.bin .lss (.t 6) (.t 8))])
    (.cond (.t 9) (.skip) (.exit 0)))
    (.seq (.block 1 (.seq (.reg [o 12 (.mv (.t 0)), o 13 (.mv (.t 5)), o 14 (.mv (.t 1)), o 15 (.iaddr 4 (.t 12) (.t 13)), o 16 (.faddr 0 (.t 15)), st (.store 1 (.t 16) (.t 14))])
     (.seq (.reg [o 17 (.mv (.t 1)), o 18 (.bin .add (.t 17) (.c (.int .i64 1))), o 1 (.mv (.t 18))])
     (.seq (.reg [o 19 (.mv (.t 0)), o 20 (.mv (.t 5)), o 21 (.mv (.t 1)), o 22 (.iaddr 4 (.t 19) (.t 20)), o 23 (.faddr 1 (.t 22)), st (.store 1 (.t 23) (.t 21))])
     (.seq (.reg [o 24 (.mv (.t 1)), o 25 (.bin .add (.t 24) (.c (.int .i64 1))), o 1 (.mv (.t 25))])
     (.seq (.reg [o 26 (.mv (.t 0)), o 27 (.mv (.t 5)), o 28 (.mv (.t 1)), o 29 (.iaddr 4 (.t 26) (.t 27)), o 30 (.faddr 2 (.t 29)), st (.store 1 (.t 30) (.t 28))])
     (.seq (.reg [o 31 (.mv (.t 1)), o 32 (.bin .add (.t 31) (.c (.int .i64 1))), o 1 (.mv (.t 32))])
     (.reg [o 33 (.mv (.t 0)), o 34 (.mv (.t 5)), o 35 (.iaddr 4 (.t 33) (.t 34)), o 36 (.faddr 3 (.t 35)), o 37 (.load none (.t 36)), o 38 (.mv (.t 1)), o 39 (.call 41 [(.t 37), (.t 38)]), o 1 (.mv (.t 39))]))))))))
    (.reg [o 10 (.mv (.t 5)), o 11 (.bin .add (.t 10) (.c (.int .i64 1))), o 5 (.mv (.t 11))]))))))
  (.seq (.reg [o 40 (.mv (.t 1)), o 4 (.mv (.t 40))])
  (.ret))),
  [.tmp 4]⟩
/- loop.example/g03011/laws.heldLineS -/
def F20 : Fun := ⟨49,
  .seq (.reg [o 4 (.mv (.c (.int .i64 0)))])
  (.seq (.seq (.reg [o 5 (.mv (.c (.int .i64 0)))])
  (.block 0 (.loop (.seq (.seq (.reg [o 6 (.mv (.t 5)), o 7 (.mv (.t 0)), o 8 (.lenL (.t 7)), o 9 (.bin .lss (.t 6) (.t 8))])
    (.cond (.t 9) (.skip) (.exit 0)))
    (.seq (.block 1 (.seq (.seq (.reg [o 12 (.mv (.t 0)), o 13 (.mv (.t 5)), o 14 (.iaddr 4 (.t 12) (.t 13)), o 15 (.faddr 0 (.t 14)), o 16 (.load none (.t 15)), o 17 (.mv (.t 1)), o 18 (.bin .neq (.t 16) (.t 17))])
     (.cond (.t 18) (.seq (.reg [o 4 (.mv (.c (.int .i64 (-1))))])
      (.ret)) (.skip)))
     (.seq (.reg [o 19 (.mv (.t 1)), o 20 (.bin .add (.t 19) (.c (.int .i64 1))), o 1 (.mv (.t 20))])
     (.seq (.seq (.reg [o 21 (.mv (.t 0)), o 22 (.mv (.t 5)), o 23 (.iaddr 4 (.t 21) (.t 22)), o 24 (.faddr 1 (.t 23)), o 25 (.load none (.t 24)), o 26 (.mv (.t 1)), o 27 (.bin .neq (.t 25) (.t 26))])
     (.cond (.t 27) (.seq (.reg [o 4 (.mv (.c (.int .i64 (-1))))])
      (.ret)) (.skip)))
     (.seq (.reg [o 28 (.mv (.t 1)), o 29 (.bin .add (.t 28) (.c (.int .i64 1))), o 1 (.mv (.t 29))])
     (.seq (.seq (.reg [o 30 (.mv (.t 0)), o 31 (.mv (.t 5)), o 32 (.iaddr 4 (.t 30) (.t 31)), o 33 (.faddr 2 (.t 32)), o 34 (.load none (.t 33)), o 35 (.mv (.t 1)), o 36 (.bin .neq (.t 34) (.t 35))])
     (.cond (.t 36) (.seq (.reg [o 4 (.mv (.c (.int .i64 (-1))))])
      (.ret)) (.skip)))
     (.seq (.reg [o 37 (.mv (.t 1)), o 38 (.bin .add (.t 37) (.c (.int .i64 1))), o 1 (.mv (.t 38))])
     (.seq (.reg [o 39 (.mv (.t 0)), o 40 (.mv (.t 5)), o 41 (.iaddr 4 (.t 39) (.t 40)), o 42 (.faddr 3 (.t 41)), o 43 (.load none (.t 42)), o 44 (.mv (.t 1)), o 45 (.call 42 [(.t 43), (.t 44)]), o 1 (.mv (.t 45))])
     (.seq (.reg [o 46 (.mv (.t 1)), o 47 (.bin .lss (.t 46) (.c (.int .i64 0)))])
     (.cond (.t 47) (.seq (.reg [o 4 (.mv (.c (.int .i64 (-1))))])
      (.ret)) (.skip)))))))))))
    (.reg [o 10 (.mv (.t 5)), o 11 (.bin .add (.t 10) (.c (.int .i64 1))), o 5 (.mv (.t 11))]))))))
  (.seq (.reg [o 48 (.mv (.t 1)), o 4 (.mv (.t 48))])
  (.ret))),
  [.tmp 4]⟩
/- loop.example/g03011/laws.szLineS -/
def F21 : Fun := ⟨27,
  .seq (.reg [o 4 (.mv (.c (.int .i64 0)))])
  (.seq (.reg [o 6 (.mv (.t 1)), o 7 (.mv (.t 0)), o 8 (.lenL (.t 7)), o 9 (.bin .sub (.t 6) (.t 8)), o 1 (.mv (.t 9))])
  (.seq (.seq (.reg [o 10 (.mv (.t 1)), o 11 (.bin .lss (.t 10) (.c (.int .i64 0)))])
  (.cond (.t 11) (.seq (.reg [o 4 (.mv (.c (.int .i64 (-1))))])
   (.ret)) (.skip)))
  (.seq (.seq (.reg [o 5 (.mv (.c (.int .i64 0)))])
  (.block 0 (.loop (.seq (.seq (.reg [o 12 (.mv (.t 5)), o 13 (.mv (.t 0)), o 14 (.lenL (.t 13)), o 15 (.bin .lss (.t 12) (.t 14))])
    (.cond (.t 15) (.skip) (.exit 0)))
    (.seq (.block 1 (.seq (.reg [o 18 (.mv (.t 0)), o 19 (.mv (.t 5)), o 20 (.iaddr 4 (.t 18) (.t 19)), o 21 (.load (some 4) (.t 20)), o 22 (.mv (.t 1)), o 23 (.call 43 [(.t 21), (.t 22)]), o 1 (.mv (.t 23))])
     (.seq (.reg [o 24 (.mv (.t 1)), o 25 (.bin .lss (.t 24) (.c (.int .i64 0)))])
     (.cond (.t 25) (.seq (.reg [o 4 (.mv (.c (.int .i64 (-1))))])
      (.ret)) (.skip)))))
    (.reg [o 16 (.mv (.t 5)), o 17 (.bin .add (.t 16) (.c (.int .i64 1))), o 5 (.mv (.t 17))]))))))
  (.seq (.reg [o 26 (.mv (.t 1)), o 4 (.mv (.t 26))])
  (.ret))))),
  [.tmp 4]⟩
/- loop.example/g03011/spec.AreLines -/
def F22 : Fun := ⟨50,
  .seq (.reg [o 2 (.mv (.c (.bool false)))])
  (.seq (.seq (.reg [o 3 (.mv (.c (.int .i64 0)))])
  (.block 0 (.loop (.seq (.seq (.reg [o 5 (.mv (.t 3)), o 6 (.mv (.t 0)), o 7 (.lenL (.t 6)), o 8 (.bin .lss (.t 5) (.t 7))])
    (.cond (.t 8) (.skip) (.exit 0)))
    (.seq (.block 1 (.seq (.reg [o 11 (.mv (.t 0)), o 12 (.mv (.t 3)), o 13 (.iaddr 4 (.t 11) (.t 12)), o 14 (.load (some 4) (.t 13)), o 4 (.new 4 [(.int .i64 0), (.int .i64 0), (.int .i64 0), .nsl]), st (.store 4 (.t 4) (.t 14))])
     (.seq (.reg [o 15 (.faddr 0 (.t 4)), o 16 (.load none (.t 15)), o 17 (.call 44 [(.t 16), (.c (.int .i64 0)), (.c (.int .i64 1000000000000))]), o 18 (.un .not (.t 17)), o 19 (.mv (.t 18)), og 20 (.faddr 1 (.t 4)) 19 false, og 21 (.load none (.t 20)) 19 false, og 22 (.call 44 [(.t 21), (.c (.int .i64 0)), (.c (.int .i64 8))]) 19 false, og 23 (.un .not (.t 22)) 19 false, o 24 (.pick (.t 19) (.c (.bool true)) (.t 23)), o 25 (.mv (.t 24)), og 26 (.faddr 2 (.t 4)) 25 false, og 27 (.load none (.t 26)) 25 false, og 28 (.call 44 [(.t 27), (.c (.int .i64 0)), (.c (.int .i64 1000000000000))]) 25 false, og 29 (.un .not (.t 28)) 25 false, o 30 (.pick (.t 25) (.c (.bool true)) (.t 29)), o 31 (.mv (.t 30)), og 32 (.faddr 3 (.t 4)) 31 false, og 33 (.load none (.t 32)) 31 false, og 34 (.lenL (.t 33)) 31 false, og 35 (.bin .gtr (.t 34) (.c (.int .i64 4100))) 31 false, o 36 (.pick (.t 31) (.c (.bool true)) (.t 35)), o 37 (.mv (.t 36)), og 38 (.faddr 0 (.t 4)) 37 false, og 39 (.load none (.t 38)) 37 false, og 40 (.bin .rem (.t 39) (.c (.int .i64 2))) 37 false, og 41 (.bin .eql (.t 40) (.c (.int .i64 1))) 37 false, og 42 (.faddr 1 (.t 4)) 37 false, og 43 (.load none (.t 42)) 37 false, og 44 (.bin .gtr (.t 43) (.c (.int .i64 0))) 37 false, og 45 (.binb .neq (.t 41) (.t 44)) 37 false, o 46 (.pick (.t 37) (.c (.bool true)) (.t 45))])
     (.cond (.t 46) (.seq (.reg [o 2 (.mv (.c (.bool false)))])
      (.ret)) (.skip)))))
    (.reg [o 9 (.mv (.t 3)), o 10 (.bin .add (.t 9) (.c (.int .i64 1))), o 3 (.mv (.t 10))]))))))
  (.seq (.reg [o 47 (.mv (.t 0)), o 48 (.lenL (.t 47)), o 49 (.bin .leq (.t 48) (.c (.int .i64 8))), o 2 (.mv (.t 49))])
  (.ret))),
  [.tmp 2]⟩
/- loop.example/g03011/laws.toLineS -/
def F23 : Fun := ⟨23,
  .seq (.reg [o 2 (.mv (.c .nsl))])
  (.seq (.reg [o 5 (.mv (.t 0)), o 6 (.lenL (.t 5)), o 7 (.mkslice 4 [(.int .i64 0), (.int .i64 0), (.int .i64 0), .nsl] 48 (.t 6) (.t 6)), o 3 (.mv (.t 7))])
  (.seq (.seq (.reg [o 4 (.mv (.c (.int .i64 0)))])
  (.block 0 (.loop (.seq (.seq (.reg [o 8 (.mv (.t 4)), o 9 (.mv (.t 0)), o 10 (.lenL (.t 9)), o 11 (.bin .lss (.t 8) (.t 10))])
    (.cond (.t 11) (.skip) (.exit 0)))
    (.seq (.block 1 (.reg [o 14 (.mv (.t 3)), o 15 (.mv (.t 4)), o 16 (.mv (.t 0)), o 17 (.mv (.t 4)), o 18 (.iaddr 4 (.t 16) (.t 17)), o 19 (.load (some 4) (.t 18)), o 20 (.call 45 [(.t 19)]), o 21 (.iaddr 4 (.t 14) (.t 15)), st (.store 4 (.t 21) (.t 20))]))
    (.reg [o 12 (.mv (.t 4)), o 13 (.bin .add (.t 12) (.c (.int .i64 1))), o 4 (.mv (.t 13))]))))))
  (.seq (.reg [o 22 (.mv (.t 3)), o 2 (.mv (.t 22))])
  (.ret)))),
  [.tmp 2]⟩
/- loop.example/g03011/impl.AreLines -/
def F24 : Fun := ⟨47,
  .seq (.reg [o 2 (.mv (.c (.bool false)))])
  (.seq (.seq (.reg [o 5 (.mv (.t 0)), o 6 (.lenL (.t 5)), o 7 (.mv (.c (.int .i64 0)))])
  (.block 0 (.loop (.seq (.reg [o 8 (.bin .lss (.t 7) (.t 6))])
    (.seq (.cond (.t 8) (.skip) (.exit 0))
    (.seq (.block 1 (.seq (.reg [o 9 (.iaddr 4 (.t 5) (.t 7)), o 10 (.load (some 4) (.t 9)), o 4 (.new 4 [(.int .i64 0), (.int .i64 0), (.int .i64 0), .nsl]), st (.store 4 (.t 4) (.t 10))])
     (.seq (.reg [o 11 (.faddr 0 (.t 4)), o 12 (.load none (.t 11)), o 13 (.call 46 [(.t 12), (.c (.int .i64 0)), (.c (.int .i64 1000000000000))]), o 14 (.un .not (.t 13)), o 15 (.mv (.t 14)), og 16 (.faddr 2 (.t 4)) 15 false, og 17 (.load none (.t 16)) 15 false, og 18 (.call 46 [(.t 17), (.c (.int .i64 0)), (.c (.int .i64 1000000000000))]) 15 false, og 19 (.un .not (.t 18)) 15 false, o 20 (.pick (.t 15) (.c (.bool true)) (.t 19)), o 21 (.mv (.t 20)), og 22 (.faddr 1 (.t 4)) 21 false, og 23 (.load none (.t 22)) 21 false, og 24 (.call 46 [(.t 23), (.c (.int .i64 0)), (.c (.int .i64 8))]) 21 false, og 25 (.un .not (.t 24)) 21 false, o 26 (.pick (.t 21) (.c (.bool true)) (.t 25)), o 27 (.mv (.t 26)), og 28 (.faddr 3 (.t 4)) 27 false, og 29 (.load none (.t 28)) 27 false, og 30 (.lenL (.t 29)) 27 false, og 31 (.bin .gtr (.t 30) (.c (.int .i64 4100))) 27 false, o 32 (.pick (.t 27) (.c (.bool true)) (.t 31)), o 33 (.mv (.t 32)), og 34 (.faddr 0 (.t 4)) 33 false, og 35 (.load none (.t 34)) 33 false, og 36 (.bin .rem (.t 35) (.c (.int .i64 2))) 33 false, og 37 (.bin .eql (.t 36) (.c (.int .i64 1))) 33 false, og 38 (.faddr 1 (.t 4)) 33 false, og 39 (.load none (.t 38)) 33 false, og 40 (.bin .gtr (.t 39) (.c (.int .i64 0))) 33 false, og 41 (.binb .neq (.t 37) (.t 40)) 33 false, o 42 (.pick (.t 33) (.c (.bool true)) (.t 41))])
     (.cond (.t 42) (.seq (.reg [o 2 (.mv (.c (.bool false)))])
      (.ret)) (.skip)))))
    (.reg [o 43 (.bin .add (.t 7) (.c (.int .i64 1))), o 7 (.mv (.t 43))])))))))
  (.seq (.reg [o 44 (.mv (.t 0)), o 45 (.lenL (.t 44)), o 46 (.bin .leq (.t 45) (.c (.int .i64 8))), o 2 (.mv (.t 46))])
  (.ret))),
  [.tmp 2]⟩
/- loop.example/g03011/laws.szResponse -/
def F25 : Fun := ⟨19,
  .seq (.reg [o 2 (.box 3 (.t 0)), o 4 (.mv (.c (.int .i64 0)))])
  (.seq (.reg [o 5 (.faddr 1 (.t 2)), o 6 (.load none (.t 5)), o 7 (.mv (.t 1)), o 8 (.call 47 [(.t 6), (.t 7)]), o 1 (.mv (.t 8))])
  (.seq (.seq (.reg [o 9 (.mv (.t 1)), o 10 (.bin .lss (.t 9) (.c (.int .i64 0)))])
  (.cond (.t 10) (.seq (.reg [o 4 (.mv (.c (.int .i64 (-1))))])
   (.ret)) (.skip)))
  (.seq (.reg [o 11 (.mv (.t 1)), o 12 (.faddr 2 (.t 2)), o 13 (.load none (.t 12)), o 14 (.lenS (.t 13)), o 15 (.bin .sub (.t 11) (.t 14)), o 1 (.mv (.t 15))])
  (.seq (.seq (.reg [o 16 (.mv (.t 1)), o 17 (.bin .lss (.t 16) (.c (.int .i64 0)))])
  (.cond (.t 17) (.seq (.reg [o 4 (.mv (.c (.int .i64 (-1))))])
   (.ret)) (.skip)))
  (.seq (.reg [o 18 (.mv (.t 1)), o 4 (.mv (.t 18))])
  (.ret)))))),
  [.tmp 4]⟩
/- loop.example/g03011/spec.SameResponse -/
def F26 : Fun := ⟨45,
  .seq (.reg [o 2 (.box 3 (.t 0)), o 3 (.box 3 (.t 1)), o 4 (.mv (.c (.bool false)))])
  (.seq (.seq (.reg [o 6 (.faddr 0 (.t 2)), o 7 (.load none (.t 6)), o 8 (.faddr 0 (.t 3)), o 9 (.load none (.t 8)), o 10 (.bin .neq (.t 7) (.t 9)), o 11 (.mv (.t 10)), og 12 (.faddr 2 (.t 2)) 11 false, og 13 (.load none (.t 12)) 11 false, og 14 (.faddr 2 (.t 3)) 11 false, og 15 (.load none (.t 14)) 11 false, og 16 (.bin .neq (.t 13) (.t 15)) 11 false, o 17 (.pick (.t 11) (.c (.bool true)) (.t 16)), o 18 (.mv (.t 17)), og 19 (.faddr 1 (.t 2)) 18 false, og 20 (.load none (.t 19)) 18 false, og 21 (.lenL (.t 20)) 18 false, og 22 (.faddr 1 (.t 3)) 18 false, og 23 (.load none (.t 22)) 18 false, og 24 (.lenL (.t 23)) 18 false, og 25 (.bin .neq (.t 21) (.t 24)) 18 false, o 26 (.pick (.t 18) (.c (.bool true)) (.t 25))])
  (.cond (.t 26) (.seq (.reg [o 4 (.mv (.c (.bool false)))])
   (.ret)) (.skip)))
  (.seq (.seq (.reg [o 5 (.mv (.c (.int .i64 0)))])
  (.block 0 (.loop (.seq (.seq (.reg [o 27 (.mv (.t 5)), o 28 (.faddr 1 (.t 2)), o 29 (.load none (.t 28)), o 30 (.lenL (.t 29)), o 31 (.bin .lss (.t 27) (.t 30))])
    (.cond (.t 31) (.skip) (.exit 0)))
    (.seq (.block 1 (.seq (.reg [o 34 (.faddr 1 (.t 2)), o 35 (.load none (.t 34)), o 36 (.mv (.t 5)), o 37 (.iaddr 2 (.t 35) (.t 36)), o 38 (.load (some 2) (.t 37)), o 39 (.faddr 1 (.t 3)), o 40 (.load none (.t 39)), o 41 (.mv (.t 5)), o 42 (.iaddr 2 (.t 40) (.t 41)), o 43 (.load (some 2) (.t 42)), o 44 (.beq true [1, 1] (.t 38) (.t 43))])
     (.cond (.t 44) (.seq (.reg [o 4 (.mv (.c (.bool false)))])
      (.ret)) (.skip))))
    (.reg [o 32 (.mv (.t 5)), o 33 (.bin .add (.t 32) (.c (.int .i64 1))), o 5 (.mv (.t 33))]))))))
  (.seq (.reg [o 4 (.mv (.c (.bool true)))])
  (.ret)))),
  [.tmp 4]⟩
/- loop.example/g03011/laws.toResponse -/
def F27 : Fun := ⟨15,
  .seq (.reg [o 1 (.box 3 (.t 0)), o 2 (.new 3 [(.int .i64 0), .nsl, (.str [])])])
  (.seq (.reg [o 3 (.new 3 [(.int .i64 0), .nsl, (.str [])])])
  (.seq (.reg [o 4 (.faddr 0 (.t 1)), o 5 (.load none (.t 4)), o 6 (.faddr 0 (.t 3)), st (.store 1 (.t 6) (.t 5))])
  (.seq (.reg [o 7 (.faddr 1 (.t 1)), o 8 (.load none (.t 7)), o 9 (.call 48 [(.t 8)]), o 10 (.faddr 1 (.t 3)), st (.store 1 (.t 10) (.t 9))])
  (.seq (.reg [o 11 (.faddr 2 (.t 1)), o 12 (.load none (.t 11)), o 13 (.faddr 2 (.t 3)), st (.store 1 (.t 13) (.t 12))])
  (.seq (.reg [o 14 (.load (some 3) (.t 3)), st (.store 3 (.t 2) (.t 14))])
  (.ret)))))),
  [.cell 2 (some 3)]⟩
/- loop.example/g03011/impl.SameResponse -/
def F28 : Fun := ⟨24,
  .seq (.reg [o 2 (.box 3 (.t 0)), o 3 (.box 3 (.t 1)), o 4 (.mv (.c (.bool false)))])
  (.seq (.reg [o 5 (.faddr 0 (.t 2)), o 6 (.load none (.t 5)), o 7 (.faddr 0 (.t 3)), o 8 (.load none (.t 7)), o 9 (.bin .eql (.t 6) (.t 8)), o 10 (.mv (.t 9)), og 11 (.faddr 2 (.t 2)) 10 true, og 12 (.load none (.t 11)) 10 true, og 13 (.faddr 2 (.t 3)) 10 true, og 14 (.load none (.t 13)) 10 true, og 15 (.bin .eql (.t 12) (.t 14)) 10 true, o 16 (.pick (.t 10) (.t 15) (.c (.bool false))), o 17 (.mv (.t 16)), og 18 (.faddr 1 (.t 2)) 17 true, og 19 (.load none (.t 18)) 17 true, og 20 (.faddr 1 (.t 3)) 17 true, og 21 (.load none (.t 20)) 17 true, og 22 (.call 49 [(.t 19), (.t 21)]) 17 true, o 23 (.pick (.t 17) (.t 22) (.c (.bool false))), o 4 (.mv (.t 23))])
  (.ret)),
  [.tmp 4]⟩
/- loop.example/g03011/laws.eqResponse -/
def F29 : Fun := ⟨21,
  .seq (.reg [o 2 (.box 3 (.t 0)), o 3 (.box 3 (.t 1)), o 4 (.mv (.c (.bool false)))])
  (.seq (.seq (.reg [o 5 (.faddr 0 (.t 2)), o 6 (.load none (.t 5)), o 7 (.faddr 0 (.t 3)), o 8 (.load none (.t 7)), o 9 (.bin .neq (.t 6) (.t 8))])
  (.cond (.t 9) (.seq (.reg [o 4 (.mv (.c (.bool false)))])
   (.ret)) (.skip)))
  (.seq (.seq (.reg [o 10 (.faddr 1 (.t 2)), o 11 (.load none (.t 10)), o 12 (.faddr 1 (.t 3)), o 13 (.load none (.t 12)), o 14 (.call 50 [(.t 11), (.t 13)]), o 15 (.un .not (.t 14))])
  (.cond (.t 15) (.seq (.reg [o 4 (.mv (.c (.bool false)))])
   (.ret)) (.skip)))
  (.seq (.seq (.reg [o 16 (.faddr 2 (.t 2)), o 17 (.load none (.t 16)), o 18 (.faddr 2 (.t 3)), o 19 (.load none (.t 18)), o 20 (.bin .neq (.t 17) (.t 19))])
  (.cond (.t 20) (.seq (.reg [o 4 (.mv (.c (.bool false)))])
   (.ret)) (.skip)))
  (.seq (.reg [o 4 (.mv (.c (.bool true)))])
  (.ret))))),
  [.tmp 4]⟩
/- loop.example/g03011/laws.szActorS -/
def F30 : Fun := ⟨27,
  .seq (.reg [o 4 (.mv (.c (.int .i64 0)))])
  (.seq (.reg [o 6 (.mv (.t 1)), o 7 (.mv (.t 0)), o 8 (.lenL (.t 7)), o 9 (.bin .sub (.t 6) (.t 8)), o 1 (.mv (.t 9))])
  (.seq (.seq (.reg [o 10 (.mv (.t 1)), o 11 (.bin .lss (.t 10) (.c (.int .i64 0)))])
  (.cond (.t 11) (.seq (.reg [o 4 (.mv (.c (.int .i64 (-1))))])
   (.ret)) (.skip)))
  (.seq (.seq (.reg [o 5 (.mv (.c (.int .i64 0)))])
  (.block 0 (.loop (.seq (.seq (.reg [o 12 (.mv (.t 5)), o 13 (.mv (.t 0)), o 14 (.lenL (.t 13)), o 15 (.bin .lss (.t 12) (.t 14))])
    (.cond (.t 15) (.skip) (.exit 0)))
    (.seq (.block 1 (.seq (.reg [o 18 (.mv (.t 0)), o 19 (.mv (.t 5)), o 20 (.iaddr 7 (.t 18) (.t 19)), o 21 (.load (some 7) (.t 20)), o 22 (.mv (.t 1)), o 23 (.call 51 [(.t 21), (.t 22)]), o 1 (.mv (.t 23))])
     (.seq (.reg [o 24 (.mv (.t 1)), o 25 (.bin .lss (.t 24) (.c (.int .i64 0)))])
     (.cond (.t 25) (.seq (.reg [o 4 (.mv (.c (.int .i64 (-1))))])
      (.ret)) (.skip)))))
    (.reg [o 16 (.mv (.t 5)), o 17 (.bin .add (.t 16) (.c (.int .i64 1))), o 5 (.mv (.t 17))]))))))
  (.seq (.reg [o 26 (.mv (.t 1)), o 4 (.mv (.t 26))])
  (.ret))))),
  [.tmp 4]⟩
/- loop.example/g03011/spec.AreActors -/
def F31 : Fun := ⟨60,
  .seq (.reg [o 2 (.mv (.c (.bool false)))])
  (.seq (.seq (.reg [o 3 (.mv (.c (.int .i64 0)))])
  (.block 0 (.loop (.seq (.seq (.reg [o 5 (.mv (.t 3)), o 6 (.mv (.t 0)), o 7 (.lenL (.t 6)), o 8 (.bin .lss (.t 5) (.t 7))])
    (.cond (.t 8) (.skip) (.exit 0)))
    (.seq (.block 1 (.seq (.reg [o 11 (.mv (.t 0)), o 12 (.mv (.t 3)), o 13 (.iaddr 7 (.t 11) (.t 12)), o 14 (.load (some 7) (.t 13)), o 4 (.new 7 [(.bool false), (.int .i64 0), (.int .i64 0), .nsl, (.int .i64 0), (.int .i64 0), (.int .i64 0)]), st (.store 7 (.t 4) (.t 14))])
     (.seq (.reg [o 15 (.faddr 1 (.t 4)), o 16 (.load none (.t 15)), o 17 (.call 44 [(.t 16), (.c (.int .i64 0)), (.c (.int .i64 7))]), o 18 (.un .not (.t 17)), o 19 (.mv (.t 18)), og 20 (.faddr 2 (.t 4)) 19 false, og 21 (.load none (.t 20)) 19 false, og 22 (.call 44 [(.t 21), (.c (.int .i64 1)), (.c (.int .i64 1000000000000))]) 19 false, og 23 (.un .not (.t 22)) 19 false, o 24 (.pick (.t 19) (.c (.bool true)) (.t 23)), o 25 (.mv (.t 24)), og 26 (.faddr 3 (.t 4)) 25 false, og 27 (.load none (.t 26)) 25 false, og 28 (.lenL (.t 27)) 25 false, og 29 (.bin .gtr (.t 28) (.c (.int .i64 4100))) 25 false, o 30 (.pick (.t 25) (.c (.bool true)) (.t 29)), o 31 (.mv (.t 30)), og 32 (.faddr 4 (.t 4)) 31 false, og 33 (.load none (.t 32)) 31 false, og 34 (.bin .neq (.t 33) (.c (.int .i64 0))) 31 false, o 35 (.pick (.t 31) (.c (.bool true)) (.t 34)), o 36 (.mv (.t 35)), og 37 (.faddr 5 (.t 4)) 36 false, og 38 (.load none (.t 37)) 36 false, og 39 (.bin .neq (.t 38) (.c (.int .i64 0))) 36 false, o 40 (.pick (.t 36) (.c (.bool true)) (.t 39)), o 41 (.mv (.t 40)), og 42 (.faddr 6 (.t 4)) 41 false, og 43 (.load none (.t 42)) 41 false, og 44 (.bin .neq (.t 43) (.c (.int .i64 0))) 41 false, o 45 (.pick (.t 41) (.c (.bool true)) (.t 44)), o 46 (.mv (.t 45)), og 47 (.faddr 0 (.t 4)) 46 false, og 48 (.load none (.t 47)) 46 false, og 49 (.un .not (.t 48)) 46 false, og 50 (.mv (.t 49)) 46 false, og 51 (.faddr 3 (.t 4)) 50 true, og 52 (.load none (.t 51)) 50 true, og 53 (.lenL (.t 52)) 50 true, og 54 (.bin .gtr (.t 53) (.c (.int .i64 0))) 50 true, og 55 (.pick (.t 50) (.t 54) (.c (.bool false))) 46 false, o 56 (.pick (.t 46) (.c (.bool true)) (.t 55))])
     (.cond (.t 56) (.seq (.reg [o 2 (.mv (.c (.bool false)))])
      (.ret)) (.skip)))))
    (.reg [o 9 (.mv (.t 3)), o 10 (.bin .add (.t 9) (.c (.int .i64 1))), o 3 (.mv (.t 10))]))))))
  (.seq (.reg [o 57 (.mv (.t 0)), o 58 (.lenL (.t 57)), o 59 (.bin .leq (.t 58) (.c (.int .i64 8))), o 2 (.mv (.t 59))])
  (.ret))),
  [.tmp 2]⟩
/- loop.example/g03011/laws.toActorS -/
def F32 : Fun := ⟨23,
  .seq (.reg [o 2 (.mv (.c .nsl))])
  (.seq (.reg [o 5 (.mv (.t 0)), o 6 (.lenL (.t 5)), o 7 (.mkslice 7 [(.bool false), (.int .i64 0), (.int .i64 0), .nsl, (.int .i64 0), (.int .i64 0), (.int .i64 0)] 72 (.t 6) (.t 6)), o 3 (.mv (.t 7))])
  (.seq (.seq (.reg [o 4 (.mv (.c (.int .i64 0)))])
  (.block 0 (.loop (.seq (.seq (.reg [o 8 (.mv (.t 4)), o 9 (.mv (.t 0)), o 10 (.lenL (.t 9)), o 11 (.bin .lss (.t 8) (.t 10))])
    (.cond (.t 11) (.skip) (.exit 0)))
    (.seq (.block 1 (.reg [o 14 (.mv (.t 3)), o 15 (.mv (.t 4)), o 16 (.mv (.t 0)), o 17 (.mv (.t 4)), o 18 (.iaddr 7 (.t 16) (.t 17)), o 19 (.load (some 7) (.t 18)), o 20 (.call 52 [(.t 19)]), o 21 (.iaddr 7 (.t 14) (.t 15)), st (.store 7 (.t 21) (.t 20))]))
    (.reg [o 12 (.mv (.t 4)), o 13 (.bin .add (.t 12) (.c (.int .i64 1))), o 4 (.mv (.t 13))]))))))
  (.seq (.reg [o 22 (.mv (.t 3)), o 2 (.mv (.t 22))])
  (.ret)))),
  [.tmp 2]⟩
/- loop.example/g03011/impl.AreActors -/
def F33 : Fun := ⟨57,
  .seq (.reg [o 2 (.mv (.c (.bool false)))])
  (.seq (.seq (.reg [o 5 (.mv (.t 0)), o 6 (.lenL (.t 5)), o 7 (.mv (.c (.int .i64 0)))])
  (.block 0 (.loop (.seq (.reg [o 8 (.bin .lss (.t 7) (.t 6))])
    (.seq (.cond (.t 8) (.skip) (.exit 0))
    (.seq (.block 1 (.seq (.reg [o 9 (.iaddr 7 (.t 5) (.t 7)), o 10 (.load (some 7) (.t 9)), o 4 (.new 7 [(.bool false), (.int .i64 0), (.int .i64 0), .nsl, (.int .i64 0), (.int .i64 0), (.int .i64 0)]), st (.store 7 (.t 4) (.t 10))])
     (.seq (.reg [o 11 (.faddr 1 (.t 4)), o 12 (.load none (.t 11)), o 13 (.call 46 [(.t 12), (.c (.int .i64 0)), (.c (.int .i64 7))]), o 14 (.un .not (.t 13)), o 15 (.mv (.t 14)), og 16 (.faddr 2 (.t 4)) 15 false, og 17 (.load none (.t 16)) 15 false, og 18 (.call 46 [(.t 17), (.c (.int .i64 1)), (.c (.int .i64 1000000000000))]) 15 false, og 19 (.un .not (.t 18)) 15 false, o 20 (.pick (.t 15) (.c (.bool true)) (.t 19)), o 21 (.mv (.t 20)), og 22 (.faddr 3 (.t 4)) 21 false, og 23 (.load none (.t 22)) 21 false, og 24 (.lenL (.t 23)) 21 false, og 25 (.bin .gtr (.t 24) (.c (.int .i64 4100))) 21 false, o 26 (.pick (.t 21) (.c (.bool true)) (.t 25)), o 27 (.mv (.t 26)), og 28 (.faddr 0 (.t 4)) 27 false, og 29 (.load none (.t 28)) 27 false, og 30 (.un .not (.t 29)) 27 false, og 31 (.mv (.t 30)) 27 false, og 32 (.faddr 3 (.t 4)) 31 true, og 33 (.load none (.t 32)) 31 true, og 34 (.lenL (.t 33)) 31 true, og 35 (.bin .gtr (.t 34) (.c (.int .i64 0))) 31 true, og 36 (.pick (.t 31) (.t 35) (.c (.bool false))) 27 false, o 37 (.pick (.t 27) (.c (.bool true)) (.t 36)), o 38 (.mv (.t 37)), og 39 (.faddr 4 (.t 4)) 38 false, og 40 (.load none (.t 39)) 38 false, og 41 (.bin .neq (.t 40) (.c (.int .i64 0))) 38 false, o 42 (.pick (.t 38) (.c (.bool true)) (.t 41)), o 43 (.mv (.t 42)), og 44 (.faddr 5 (.t 4)) 43 false, og 45 (.load none (.t 44)) 43 false, og 46 (.bin .neq (.t 45) (.c (.int .i64 0))) 43 false, o 47 (.pick (.t 43) (.c (.bool true)) (.t 46)), o 48 (.mv (.t 47)), og 49 (.faddr 6 (.t 4)) 48 false, og 50 (.load none (.t 49)) 48 false, og 51 (.bin .neq (.t 50) (.c (.int .i64 0))) 48 false, o 52 (.pick (.t 48) (.c (.bool true)) (.t 51))])
     (.cond (.t 52) (.seq (.reg [o 2 (.mv (.c (.bool false)))])
      (.ret)) (.skip)))))
    (.reg [o 53 (.bin .add (.t 7) (.c (.int .i64 1))), o 7 (.mv (.t 53))])))))))
  (.seq (.reg [o 54 (.mv (.t 0)), o 55 (.lenL (.t 54)), o 56 (.bin .leq (.t 55) (.c (.int .i64 8))), o 2 (.mv (.t 56))])
  (.ret))),
  [.tmp 2]⟩
/- loop.example/g03011/laws.eqActorS -/
def F34 : Fun := ⟨27,
  .seq (.reg [o 4 (.mv (.c (.bool false)))])
  (.seq (.seq (.reg [o 6 (.mv (.t 0)), o 7 (.lenL (.t 6)), o 8 (.mv (.t 1)), o 9 (.lenL (.t 8)), o 10 (.bin .neq (.t 7) (.t 9))])
  (.cond (.t 10) (.seq (.reg [o 4 (.mv (.c (.bool false)))])
   (.ret)) (.skip)))
  (.seq (.seq (.reg [o 5 (.mv (.c (.int .i64 0)))])
  (.block 0 (.loop (.seq (.seq (.reg [o 11 (.mv (.t 5)), o 12 (.mv (.t 0)), o 13 (.lenL (.t 12)), o 14 (.bin .lss (.t 11) (.t 13))])
    (.cond (.t 14) (.skip) (.exit 0)))
    (.seq (.block 1 (.seq (.reg [o 17 (.mv (.t 0)), o 18 (.mv (.t 5)), o 19 (.iaddr 7 (.t 17) (.t 18)), o 20 (.load (some 7) (.t 19)), o 21 (.mv (.t 1)), o 22 (.mv (.t 5)), o 23 (.iaddr 7 (.t 21) (.t 22)), o 24 (.load (some 7) (.t 23)), o 25 (.callF 53 [(.t 20), (.t 24)]), o 26 (.un .not (.t 25))])
     (.cond (.t 26) (.seq (.reg [o 4 (.mv (.c (.bool false)))])
      (.ret)) (.skip))))
    (.reg [o 15 (.mv (.t 5)), o 16 (.bin .add (.t 15) (.c (.int .i64 1))), o 5 (.mv (.t 16))]))))))
  (.seq (.reg [o 4 (.mv (.c (.bool true)))])
  (.ret)))),
  [.tmp 4]⟩
/- loop.example/g03011/laws.szSession -/
def F35 : Fun := ⟨20,
  .seq (.reg [o 2 (.box 4 (.t 0)), o 4 (.mv (.c (.int .i64 0)))])
  (.seq (.reg [o 5 (.mv (.t 1)), o 6 (.faddr 0 (.t 2)), o 7 (.load none (.t 6)), o 8 (.lenS (.t 7)), o 9 (.bin .sub (.t 5) (.t 8)), o 1 (.mv (.t 9))])
  (.seq (.seq (.reg [o 10 (.mv (.t 1)), o 11 (.bin .lss (.t 10) (.c (.int .i64 0)))])
  (.cond (.t 11) (.seq (.reg [o 4 (.mv (.c (.int .i64 (-1))))])
   (.ret)) (.skip)))
  (.seq (.reg [o 12 (.mv (.t 1)), o 13 (.faddr 1 (.t 2)), o 14 (.load none (.t 13)), o 15 (.lenS (.t 14)), o 16 (.bin .sub (.t 12) (.t 15)), o 1 (.mv (.t 16))])
  (.seq (.seq (.reg [o 17 (.mv (.t 1)), o 18 (.bin .lss (.t 17) (.c (.int .i64 0)))])
  (.cond (.t 18) (.seq (.reg [o 4 (.mv (.c (.int .i64 (-1))))])
   (.ret)) (.skip)))
  (.seq (.reg [o 19 (.mv (.t 1)), o 4 (.mv (.t 19))])
  (.ret)))))),
  [.tmp 4]⟩
/- loop.example/g03011/laws.toSession -/
def F36 : Fun := ⟨17,
  .seq (.reg [o 1 (.box 4 (.t 0)), o 2 (.new 4 [(.str []), (.str []), (.int .i64 0), (.int .i64 0)])])
  (.seq (.reg [o 3 (.new 4 [(.str []), (.str []), (.int .i64 0), (.int .i64 0)])])
  (.seq (.reg [o 4 (.faddr 0 (.t 1)), o 5 (.load none (.t 4)), o 6 (.faddr 0 (.t 3)), st (.store 1 (.t 6) (.t 5))])
  (.seq (.reg [o 7 (.faddr 1 (.t 1)), o 8 (.load none (.t 7)), o 9 (.faddr 1 (.t 3)), st (.store 1 (.t 9) (.t 8))])
  (.seq (.reg [o 10 (.faddr 2 (.t 1)), o 11 (.load none (.t 10)), o 12 (.faddr 2 (.t 3)), st (.store 1 (.t 12) (.t 11))])
  (.seq (.reg [o 13 (.faddr 3 (.t 1)), o 14 (.load none (.t 13)), o 15 (.faddr 3 (.t 3)), st (.store 1 (.t 15) (.t 14))])
  (.seq (.reg [o 16 (.load (some 4) (.t 3)), st (.store 4 (.t 2) (.t 16))])
  (.ret))))))),
  [.cell 2 (some 4)]⟩
/- slices.IndexFunc[[]loop.example/g03011/impl.Session,loop.example/g03011/impl.Session] -/
def F37 : Fun := ⟨19,
  .seq (.reg [o 4 (.mv (.c (.int .i64 0)))])
  (.seq (.seq (.reg [o 6 (.mv (.t 0)), o 7 (.lenL (.t 6)), o 8 (.mv (.c (.int .i64 0)))])
  (.block 0 (.loop (.seq (.reg [o 9 (.bin .lss (.t 8) (.t 7))])
    (.seq (.cond (.t 9) (.skip) (.exit 0))
    (.seq (.block 1 (.seq (.reg [o 10 (.mv (.t 8)), o 5 (.mv (.t 10))])
     (.seq (.reg [o 11 (.mv (.t 1)), o 12 (.mv (.t 0)), o 13 (.mv (.t 5)), o 14 (.iaddr 4 (.t 12) (.t 13)), o 15 (.load (some 4) (.t 14)), o 16 (.callv (.t 11) [(.t 15)])])
     (.cond (.t 16) (.seq (.reg [o 17 (.mv (.t 5)), o 4 (.mv (.t 17))])
      (.ret)) (.skip)))))
    (.reg [o 18 (.bin .add (.t 8) (.c (.int .i64 1))), o 8 (.mv (.t 18))])))))))
  (.seq (.reg [o 4 (.mv (.c (.int .i64 (-1))))])
  (.ret))),
  [.tmp 4]⟩
/- loop.example/g03011/impl.FindSession$1 -/
def F38 : Fun := ⟨8,
  .seq (.reg [o 2 (.box 4 (.t 0)), o 3 (.mv (.c (.bool false)))])
  (.seq (.reg [o 4 (.faddr 0 (.t 2)), o 5 (.load none (.t 4)), o 6 (.load none (.t 1)), o 7 (.bin .eql (.t 5) (.t 6)), o 3 (.mv (.t 7))])
  (.ret)),
  [.tmp 3]⟩
/- loop.example/g03011/laws.eqSession -/
def F39 : Fun := ⟨25,
  .seq (.reg [o 2 (.box 4 (.t 0)), o 3 (.box 4 (.t 1)), o 4 (.mv (.c (.bool false)))])
  (.seq (.seq (.reg [o 5 (.faddr 0 (.t 2)), o 6 (.load none (.t 5)), o 7 (.faddr 0 (.t 3)), o 8 (.load none (.t 7)), o 9 (.bin .neq (.t 6) (.t 8))])
  (.cond (.t 9) (.seq (.reg [o 4 (.mv (.c (.bool false)))])
   (.ret)) (.skip)))
  (.seq (.seq (.reg [o 10 (.faddr 1 (.t 2)), o 11 (.load none (.t 10)), o 12 (.faddr 1 (.t 3)), o 13 (.load none (.t 12)), o 14 (.bin .neq (.t 11) (.t 13))])
  (.cond (.t 14) (.seq (.reg [o 4 (.mv (.c (.bool false)))])
   (.ret)) (.skip)))
  (.seq (.seq (.reg [o 15 (.faddr 2 (.t 2)), o 16 (.load none (.t 15)), o 17 (.faddr 2 (.t 3)), o 18 (.load none (.t 17)), o 19 (.bin .neq (.t 16) (.t 18))])
  (.cond (.t 19) (.seq (.reg [o 4 (.mv (.c (.bool false)))])
   (.ret)) (.skip)))
  (.seq (.seq (.reg [o 20 (.faddr 3 (.t 2)), o 21 (.load none (.t 20)), o 22 (.faddr 3 (.t 3)), o 23 (.load none (.t 22)), o 24 (.bin .neq (.t 21) (.t 23))])
  (.cond (.t 24) (.seq (.reg [o 4 (.mv (.c (.bool false)))])
   (.ret)) (.skip)))
  (.seq (.reg [o 4 (.mv (.c (.bool true)))])
  (.ret)))))),
  [.tmp 4]⟩
/- loop.example/g03011/laws.eqLine -/
def F40 : Fun := ⟨26,
  .seq (.reg [o 2 (.box 4 (.t 0)), o 3 (.box 4 (.t 1)), o 4 (.mv (.c (.bool false)))])
  (.seq (.seq (.reg [o 5 (.faddr 0 (.t 2)), o 6 (.load none (.t 5)), o 7 (.faddr 0 (.t 3)), o 8 (.load none (.t 7)), o 9 (.bin .neq (.t 6) (.t 8))])
  (.cond (.t 9) (.seq (.reg [o 4 (.mv (.c (.bool false)))])
   (.ret)) (.skip)))
  (.seq (.seq (.reg [o 10 (.faddr 1 (.t 2)), o 11 (.load none (.t 10)), o 12 (.faddr 1 (.t 3)), o 13 (.load none (.t 12)), o 14 (.bin .neq (.t 11) (.t 13))])
  (.cond (.t 14) (.seq (.reg [o 4 (.mv (.c (.bool false)))])
   (.ret)) (.skip)))
  (.seq (.seq (.reg [o 15 (.faddr 2 (.t 2)), o 16 (.load none (.t 15)), o 17 (.faddr 2 (.t 3)), o 18 (.load none (.t 17)), o 19 (.bin .neq (.t 16) (.t 18))])
  (.cond (.t 19) (.seq (.reg [o 4 (.mv (.c (.bool false)))])
   (.ret)) (.skip)))
  (.seq (.seq (.reg [o 20 (.faddr 3 (.t 2)), o 21 (.load none (.t 20)), o 22 (.faddr 3 (.t 3)), o 23 (.load none (.t 22)), o 24 (.call 54 [(.t 21), (.t 23)]), o 25 (.un .not (.t 24))])
  (.cond (.t 25) (.seq (.reg [o 4 (.mv (.c (.bool false)))])
   (.ret)) (.skip)))
  (.seq (.reg [o 4 (.mv (.c (.bool true)))])
  (.ret)))))),
  [.tmp 4]⟩
/- loop.example/g03011/laws.markIntS -/
def F41 : Fun := ⟨19,
  .seq (.reg [o 4 (.mv (.c (.int .i64 0)))])
  (.seq (.seq (.reg [o 5 (.mv (.c (.int .i64 0)))])
  (.block 0 (.loop (.seq (.seq (.reg [o 6 (.mv (.t 5)), o 7 (.mv (.t 0)), o 8 (.lenL (.t 7)), o 9 (.bin .lss (.t 6) (.t 8))])
    (.cond (.t 9) (.skip) (.exit 0)))
    (.seq (.block 1 (.seq (.reg [o 12 (.mv (.t 0)), o 13 (.mv (.t 5)), o 14 (.mv (.t 1)), o 15 (.iaddr 1 (.t 12) (.t 13)), st (.store 1 (.t 15) (.t 14))])
     (.reg [o 16 (.mv (.t 1)), o 17 (.bin .add (.t 16) (.c (.int .i64 1))), o 1 (.mv (.t 17))])))
    (.reg [o 10 (.mv (.t 5)), o 11 (.bin .add (.t 10) (.c (.int .i64 1))), o 5 (.mv (.t 11))]))))))
  (.seq (.reg [o 18 (.mv (.t 1)), o 4 (.mv (.t 18))])
  (.ret))),
  [.tmp 4]⟩
/- loop.example/g03011/laws.heldIntS -/
def F42 : Fun := ⟨21,
  .seq (.reg [o 4 (.mv (.c (.int .i64 0)))])
  (.seq (.seq (.reg [o 5 (.mv (.c (.int .i64 0)))])
  (.block 0 (.loop (.seq (.seq (.reg [o 6 (.mv (.t 5)), o 7 (.mv (.t 0)), o 8 (.lenL (.t 7)), o 9 (.bin .lss (.t 6) (.t 8))])
    (.cond (.t 9) (.skip) (.exit 0)))
    (.seq (.block 1 (.seq (.seq (.reg [o 12 (.mv (.t 0)), o 13 (.mv (.t 5)), o 14 (.iaddr 1 (.t 12) (.t 13)), o 15 (.load none (.t 14)), o 16 (.mv (.t 1)), o 17 (.bin .neq (.t 15) (.t 16))])
     (.cond (.t 17) (.seq (.reg [o 4 (.mv (.c (.int .i64 (-1))))])
      (.ret)) (.skip)))
     (.reg [o 18 (.mv (.t 1)), o 19 (.bin .add (.t 18) (.c (.int .i64 1))), o 1 (.mv (.t 19))])))
    (.reg [o 10 (.mv (.t 5)), o 11 (.bin .add (.t 10) (.c (.int .i64 1))), o 5 (.mv (.t 11))]))))))
  (.seq (.reg [o 20 (.mv (.t 1)), o 4 (.mv (.t 20))])
  (.ret))),
  [.tmp 4]⟩
/- loop.example/g03011/laws.szLine -/
def F43 : Fun := ⟨12,
  .seq (.reg [o 2 (.box 4 (.t 0)), o 4 (.mv (.c (.int .i64 0)))])
  (.seq (.reg [o 5 (.faddr 3 (.t 2)), o 6 (.load none (.t 5)), o 7 (.mv (.t 1)), o 8 (.call 55 [(.t 6), (.t 7)]), o 1 (.mv (.t 8))])
  (.seq (.seq (.reg [o 9 (.mv (.t 1)), o 10 (.bin .lss (.t 9) (.c (.int .i64 0)))])
  (.cond (.t 10) (.seq (.reg [o 4 (.mv (.c (.int .i64 (-1))))])
   (.ret)) (.skip)))
  (.seq (.reg [o 11 (.mv (.t 1)), o 4 (.mv (.t 11))])
  (.ret)))),
  [.tmp 4]⟩
/- loop.example/g03011/spec.l1In -/
def F44 : Fun := ⟨15,
  .seq (.reg [o 6 (.mv (.c (.bool false)))])
  (.seq (.reg [o 7 (.mv (.t 0)), o 8 (.mv (.t 1)), o 9 (.bin .geq (.t 7) (.t 8)), o 10 (.mv (.t 9)), og 11 (.mv (.t 0)) 10 true, og 12 (.mv (.t 2)) 10 true, og 13 (.bin .leq (.t 11) (.t 12)) 10 true, o 14 (.pick (.t 10) (.t 13) (.c (.bool false))), o 6 (.mv (.t 14))])
  (.ret)),
  [.tmp 6]⟩
/- loop.example/g03011/laws.toLine -/
def F45 : Fun := ⟨18,
  .seq (.reg [o 1 (.box 4 (.t 0)), o 2 (.new 4 [(.int .i64 0), (.int .i64 0), (.int .i64 0), .nsl])])
  (.seq (.reg [o 3 (.new 4 [(.int .i64 0), (.int .i64 0), (.int .i64 0), .nsl])])
  (.seq (.reg [o 4 (.faddr 0 (.t 1)), o 5 (.load none (.t 4)), o 6 (.faddr 0 (.t 3)), st (.store 1 (.t 6) (.t 5))])
  (.seq (.reg [o 7 (.faddr 1 (.t 1)), o 8 (.load none (.t 7)), o 9 (.faddr 1 (.t 3)), st (.store 1 (.t 9) (.t 8))])
  (.seq (.reg [o 10 (.faddr 2 (.t 1)), o 11 (.load none (.t 10)), o 12 (.faddr 2 (.t 3)), st (.store 1 (.t 12) (.t 11))])
  (.seq (.reg [o 13 (.faddr 3 (.t 1)), o 14 (.load none (.t 13)), o 15 (.call 56 [(.t 14)]), o 16 (.faddr 3 (.t 3)), st (.store 1 (.t 16) (.t 15))])
  (.seq (.reg [o 17 (.load (some 4) (.t 3)), st (.store 4 (.t 2) (.t 17))])
  (.ret))))))),
  [.cell 2 (some 4)]⟩
/- loop.example/g03011/impl.InRange -/
def F46 : Fun := ⟨15,
  .seq (.reg [o 6 (.mv (.c (.bool false)))])
  (.seq (.reg [o 7 (.mv (.t 1)), o 8 (.mv (.t 0)), o 9 (.bin .leq (.t 7) (.t 8)), o 10 (.mv (.t 9)), og 11 (.mv (.t 0)) 10 true, og 12 (.mv (.t 2)) 10 true, og 13 (.bin .leq (.t 11) (.t 12)) 10 true, o 14 (.pick (.t 10) (.t 13) (.c (.bool false))), o 6 (.mv (.t 14))])
  (.ret)),
  [.tmp 6]⟩
/- loop.example/g03011/laws.szHeaderS -/
def F47 : Fun := ⟨27,
  .seq (.reg [o 4 (.mv (.c (.int .i64 0)))])
  (.seq (.reg [o 6 (.mv (.t 1)), o 7 (.mv (.t 0)), o 8 (.lenL (.t 7)), o 9 (.bin .sub (.t 6) (.t 8)), o 1 (.mv (.t 9))])
  (.seq (.seq (.reg [o 10 (.mv (.t 1)), o 11 (.bin .lss (.t 10) (.c (.int .i64 0)))])
  (.cond (.t 11) (.seq (.reg [o 4 (.mv (.c (.int .i64 (-1))))])
   (.ret)) (.skip)))
  (.seq (.seq (.reg [o 5 (.mv (.c (.int .i64 0)))])
  (.block 0 (.loop (.seq (.seq (.reg [o 12 (.mv (.t 5)), o 13 (.mv (.t 0)), o 14 (.lenL (.t 13)), o 15 (.bin .lss (.t 12) (.t 14))])
    (.cond (.t 15) (.skip) (.exit 0)))
    (.seq (.block 1 (.seq (.reg [o 18 (.mv (.t 0)), o 19 (.mv (.t 5)), o 20 (.iaddr 2 (.t 18) (.t 19)), o 21 (.load (some 2) (.t 20)), o 22 (.mv (.t 1)), o 23 (.call 57 [(.t 21), (.t 22)]), o 1 (.mv (.t 23))])
     (.seq (.reg [o 24 (.mv (.t 1)), o 25 (.bin .lss (.t 24) (.c (.int .i64 0)))])
     (.cond (.t 25) (.seq (.reg [o 4 (.mv (.c (.int .i64 (-1))))])
      (.ret)) (.skip)))))
    (.reg [o 16 (.mv (.t 5)), o 17 (.bin .add (.t 16) (.c (.int .i64 1))), o 5 (.mv (.t 17))]))))))
  (.seq (.reg [o 26 (.mv (.t 1)), o 4 (.mv (.t 26))])
  (.ret))))),
  [.tmp 4]⟩
/- loop.example/g03011/laws.toHeaderS -/
def F48 : Fun := ⟨23,
  .seq (.reg [o 2 (.mv (.c .nsl))])
  (.seq (.reg [o 5 (.mv (.t 0)), o 6 (.lenL (.t 5)), o 7 (.mkslice 2 [(.str []), (.str [])] 32 (.t 6) (.t 6)), o 3 (.mv (.t 7))])
  (.seq (.seq (.reg [o 4 (.mv (.c (.int .i64 0)))])
  (.block 0 (.loop (.seq (.seq (.reg [o 8 (.mv (.t 4)), o 9 (.mv (.t 0)), o 10 (.lenL (.t 9)), o 11 (.bin .lss (.t 8) (.t 10))])
    (.cond (.t 11) (.skip) (.exit 0)))
    (.seq (.block 1 (.reg [o 14 (.mv (.t 3)), o 15 (.mv (.t 4)), o 16 (.mv (.t 0)), o 17 (.mv (.t 4)), o 18 (.iaddr 2 (.t 16) (.t 17)), o 19 (.load (some 2) (.t 18)), o 20 (.call 58 [(.t 19)]), o 21 (.iaddr 2 (.t 14) (.t 15)), st (.store 2 (.t 21) (.t 20))]))
    (.reg [o 12 (.mv (.t 4)), o 13 (.bin .add (.t 12) (.c (.int .i64 1))), o 4 (.mv (.t 13))]))))))
  (.seq (.reg [o 22 (.mv (.t 3)), o 2 (.mv (.t 22))])
  (.ret)))),
  [.tmp 2]⟩
/- slices.Equal[[]loop.example/g03011/impl.Header,loop.example/g03011/impl.Header] -/
def F49 : Fun := ⟨26,
  .seq (.reg [o 4 (.mv (.c (.bool false)))])
  (.seq (.seq (.reg [o 6 (.mv (.t 0)), o 7 (.lenL (.t 6)), o 8 (.mv (.t 1)), o 9 (.lenL (.t 8)), o 10 (.bin .neq (.t 7) (.t 9))])
  (.cond (.t 10) (.seq (.reg [o 4 (.mv (.c (.bool false)))])
   (.ret)) (.skip)))
  (.seq (.seq (.reg [o 11 (.mv (.t 0)), o 12 (.lenL (.t 11)), o 13 (.mv (.c (.int .i64 0)))])
  (.block 0 (.loop (.seq (.reg [o 14 (.bin .lss (.t 13) (.t 12))])
    (.seq (.cond (.t 14) (.skip) (.exit 0))
    (.seq (.block 1 (.seq (.reg [o 15 (.mv (.t 13)), o 5 (.mv (.t 15))])
     (.seq (.reg [o 16 (.mv (.t 0)), o 17 (.mv (.t 5)), o 18 (.iaddr 2 (.t 16) (.t 17)), o 19 (.load (some 2) (.t 18)), o 20 (.mv (.t 1)), o 21 (.mv (.t 5)), o 22 (.iaddr 2 (.t 20) (.t 21)), o 23 (.load (some 2) (.t 22)), o 24 (.beq true [1, 1] (.t 19) (.t 23))])
     (.cond (.t 24) (.seq (.reg [o 4 (.mv (.c (.bool false)))])
      (.ret)) (.skip)))))
    (.reg [o 25 (.bin .add (.t 13) (.c (.int .i64 1))), o 13 (.mv (.t 25))])))))))
  (.seq (.reg [o 4 (.mv (.c (.bool true)))])
  (.ret)))),
  [.tmp 4]⟩
/- loop.example/g03011/laws.eqHeaderS -/
def F50 : Fun := ⟨27,
  .seq (.reg [o 4 (.mv (.c (.bool false)))])
  (.seq (.seq (.reg [o 6 (.mv (.t 0)), o 7 (.lenL (.t 6)), o 8 (.mv (.t 1)), o 9 (.lenL (.t 8)), o 10 (.bin .neq (.t 7) (.t 9))])
  (.cond (.t 10) (.seq (.reg [o 4 (.mv (.c (.bool false)))])
   (.ret)) (.skip)))
  (.seq (.seq (.reg [o 5 (.mv (.c (.int .i64 0)))])
  (.block 0 (.loop (.seq (.seq (.reg [o 11 (.mv (.t 5)), o 12 (.mv (.t 0)), o 13 (.lenL (.t 12)), o 14 (.bin .lss (.t 11) (.t 13))])
    (.cond (.t 14) (.skip) (.exit 0)))
    (.seq (.block 1 (.seq (.reg [o 17 (.mv (.t 0)), o 18 (.mv (.t 5)), o 19 (.iaddr 2 (.t 17) (.t 18)), o 20 (.load (some 2) (.t 19)), o 21 (.mv (.t 1)), o 22 (.mv (.t 5)), o 23 (.iaddr 2 (.t 21) (.t 22)), o 24 (.load (some 2) (.t 23)), o 25 (.callF 59 [(.t 20), (.t 24)]), o 26 (.un .not (.t 25))])
     (.cond (.t 26) (.seq (.reg [o 4 (.mv (.c (.bool false)))])
      (.ret)) (.skip))))
    (.reg [o 15 (.mv (.t 5)), o 16 (.bin .add (.t 15) (.c (.int .i64 1))), o 5 (.mv (.t 16))]))))))
  (.seq (.reg [o 4 (.mv (.c (.bool true)))])
  (.ret)))),
  [.tmp 4]⟩
/- loop.example/g03011/laws.szActor -/
def F51 : Fun := ⟨12,
  .seq (.reg [o 2 (.box 7 (.t 0)), o 4 (.mv (.c (.int .i64 0)))])
  (.seq (.reg [o 5 (.faddr 3 (.t 2)), o 6 (.load none (.t 5)), o 7 (.mv (.t 1)), o 8 (.call 55 [(.t 6), (.t 7)]), o 1 (.mv (.t 8))])
  (.seq (.seq (.reg [o 9 (.mv (.t 1)), o 10 (.bin .lss (.t 9) (.c (.int .i64 0)))])
  (.cond (.t 10) (.seq (.reg [o 4 (.mv (.c (.int .i64 (-1))))])
   (.ret)) (.skip)))
  (.seq (.reg [o 11 (.mv (.t 1)), o 4 (.mv (.t 11))])
  (.ret)))),
  [.tmp 4]⟩
/- loop.example/g03011/laws.toActor -/
def F52 : Fun := ⟨27,
  .seq (.reg [o 1 (.box 7 (.t 0)), o 2 (.new 7 [(.bool false), (.int .i64 0), (.int .i64 0), .nsl, (.int .i64 0), (.int .i64 0), (.int .i64 0)])])
  (.seq (.reg [o 3 (.new 7 [(.bool false), (.int .i64 0), (.int .i64 0), .nsl, (.int .i64 0), (.int .i64 0), (.int .i64 0)])])
  (.seq (.reg [o 4 (.faddr 0 (.t 1)), o 5 (.load none (.t 4)), o 6 (.faddr 0 (.t 3)), st (.store 1 (.t 6) (.t 5))])
  (.seq (.reg [o 7 (.faddr 1 (.t 1)), o 8 (.load none (.t 7)), o 9 (.faddr 1 (.t 3)), st (.store 1 (.t 9) (.t 8))])
  (.seq (.reg [o 10 (.faddr 2 (.t 1)), o 11 (.load none (.t 10)), o 12 (.faddr 2 (.t 3)), st (.store 1 (.t 12) (.t 11))])
  (.seq (.reg [o 13 (.faddr 3 (.t 1)), o 14 (.load none (.t 13)), o 15 (.call 56 [(.t 14)]), o 16 (.faddr 3 (.t 3)), st (.store 1 (.t 16) (.t 15))])
  (.seq (.reg [o 17 (.faddr 4 (.t 1)), o 18 (.load none (.t 17)), o 19 (.faddr 4 (.t 3)), st (.store 1 (.t 19) (.t 18))])
  (.seq (.reg [o 20 (.faddr 5 (.t 1)), o 21 (.load none (.t 20)), o 22 (.faddr 5 (.t 3)), st (.store 1 (.t 22) (.t 21))])
  (.seq (.reg [o 23 (.faddr 6 (.t 1)), o 24 (.load none (.t 23)), o 25 (.faddr 6 (.t 3)), st (.store 1 (.t 25) (.t 24))])
  (.seq (.reg [o 26 (.load (some 7) (.t 3)), st (.store 7 (.t 2) (.t 26))])
  (.ret)))))))))),
  [.cell 2 (some 7)]⟩
/- loop.example/g03011/laws.eqActor -/
def F53 : Fun := ⟨41,
  .seq (.reg [o 2 (.box 7 (.t 0)), o 3 (.box 7 (.t 1)), o 4 (.mv (.c (.bool false)))])
  (.seq (.seq (.reg [o 5 (.faddr 0 (.t 2)), o 6 (.load none (.t 5)), o 7 (.faddr 0 (.t 3)), o 8 (.load none (.t 7)), o 9 (.binb .neq (.t 6) (.t 8))])
  (.cond (.t 9) (.seq (.reg [o 4 (.mv (.c (.bool false)))])
   (.ret)) (.skip)))
  (.seq (.seq (.reg [o 10 (.faddr 1 (.t 2)), o 11 (.load none (.t 10)), o 12 (.faddr 1 (.t 3)), o 13 (.load none (.t 12)), o 14 (.bin .neq (.t 11) (.t 13))])
  (.cond (.t 14) (.seq (.reg [o 4 (.mv (.c (.bool false)))])
   (.ret)) (.skip)))
  (.seq (.seq (.reg [o 15 (.faddr 2 (.t 2)), o 16 (.load none (.t 15)), o 17 (.faddr 2 (.t 3)), o 18 (.load none (.t 17)), o 19 (.bin .neq (.t 16) (.t 18))])
  (.cond (.t 19) (.seq (.reg [o 4 (.mv (.c (.bool false)))])
   (.ret)) (.skip)))
  (.seq (.seq (.reg [o 20 (.faddr 3 (.t 2)), o 21 (.load none (.t 20)), o 22 (.faddr 3 (.t 3)), o 23 (.load none (.t 22)), o 24 (.call 54 [(.t 21), (.t 23)]), o 25 (.un .not (.t 24))])
  (.cond (.t 25) (.seq (.reg [o 4 (.mv (.c (.bool false)))])
   (.ret)) (.skip)))
  (.seq (.seq (.reg [o 26 (.faddr 4 (.t 2)), o 27 (.load none (.t 26)), o 28 (.faddr 4 (.t 3)), o 29 (.load none (.t 28)), o 30 (.bin .neq (.t 27) (.t 29))])
  (.cond (.t 30) (.seq (.reg [o 4 (.mv (.c (.bool false)))])
   (.ret)) (.skip)))
  (.seq (.seq (.reg [o 31 (.faddr 5 (.t 2)), o 32 (.load none (.t 31)), o 33 (.faddr 5 (.t 3)), o 34 (.load none (.t 33)), o 35 (.bin .neq (.t 32) (.t 34))])
  (.cond (.t 35) (.seq (.reg [o 4 (.mv (.c (.bool false)))])
   (.ret)) (.skip)))
  (.seq (.seq (.reg [o 36 (.faddr 6 (.t 2)), o 37 (.load none (.t 36)), o 38 (.faddr 6 (.t 3)), o 39 (.load none (.t 38)), o 40 (.bin .neq (.t 37) (.t 39))])
  (.cond (.t 40) (.seq (.reg [o 4 (.mv (.c (.bool false)))])
   (.ret)) (.skip)))
  (.seq (.reg [o 4 (.mv (.c (.bool true)))])
  (.ret))))))))),
  [.tmp 4]⟩
/- loop.example/g03011/laws.eqIntS -/
def F54 : Fun := ⟨26,
  .seq (.reg [o 4 (.mv (.c (.bool false)))])
  (.seq (.seq (.reg [o 6 (.mv (.t 0)), o 7 (.lenL (.t 6)), o 8 (.mv (.t 1)), o 9 (.lenL (.t 8)), o 10 (.bin .neq (.t 7) (.t 9))])
  (.cond (.t 10) (.seq (.reg [o 4 (.mv (.c (.bool false)))])
   (.ret)) (.skip)))
  (.seq (.seq (.reg [o 5 (.mv (.c (.int .i64 0)))])
  (.block 0 (.loop (.seq (.seq (.reg [o 11 (.mv (.t 5)), o 12 (.mv (.t 0)), o 13 (.lenL (.t 12)), o 14 (.bin .lss (.t 11) (.t 13))])
    (.cond (.t 14) (.skip) (.exit 0)))
    (.seq (.block 1 (.seq (.reg [o 17 (.mv (.t 0)), o 18 (.mv (.t 5)), o 19 (.iaddr 1 (.t 17) (.t 18)), o 20 (.load none (.t 19)), o 21 (.mv (.t 1)), o 22 (.mv (.t 5)), o 23 (.iaddr 1 (.t 21) (.t 22)), o 24 (.load none (.t 23)), o 25 (.bin .neq (.t 20) (.t 24))])
     (.cond (.t 25) (.seq (.reg [o 4 (.mv (.c (.bool false)))])
      (.ret)) (.skip))))
    (.reg [o 15 (.mv (.t 5)), o 16 (.bin .add (.t 15) (.c (.int .i64 1))), o 5 (.mv (.t 16))]))))))
  (.seq (.reg [o 4 (.mv (.c (.bool true)))])
  (.ret)))),
  [.tmp 4]⟩
/- loop.example/g03011/laws.szIntS -/
def F55 : Fun := ⟨12,
  .seq (.reg [o 4 (.mv (.c (.int .i64 0)))])
  (.seq (.reg [o 5 (.mv (.t 1)), o 6 (.mv (.t 0)), o 7 (.lenL (.t 6)), o 8 (.bin .sub (.t 5) (.t 7)), o 1 (.mv (.t 8))])
  (.seq (.seq (.reg [o 9 (.mv (.t 1)), o 10 (.bin .lss (.t 9) (.c (.int .i64 0)))])
  (.cond (.t 10) (.seq (.reg [o 4 (.mv (.c (.int .i64 (-1))))])
   (.ret)) (.skip)))
  (.seq (.reg [o 11 (.mv (.t 1)), o 4 (.mv (.t 11))])
  (.ret)))),
  [.tmp 4]⟩
/- loop.example/g03011/laws.toIntS -/
def F56 : Fun := ⟨22,
  .seq (.reg [o 2 (.mv (.c .nsl))])
  (.seq (.reg [o 5 (.mv (.t 0)), o 6 (.lenL (.t 5)), o 7 (.mkslice 1 [(.int .i64 0)] 8 (.t 6) (.t 6)), o 3 (.mv (.t 7))])
  (.seq (.seq (.reg [o 4 (.mv (.c (.int .i64 0)))])
  (.block 0 (.loop (.seq (.seq (.reg [o 8 (.mv (.t 4)), o 9 (.mv (.t 0)), o 10 (.lenL (.t 9)), o 11 (.bin .lss (.t 8) (.t 10))])
    (.cond (.t 11) (.skip) (.exit 0)))
    (.seq (.block 1 (.reg [o 14 (.mv (.t 3)), o 15 (.mv (.t 4)), o 16 (.mv (.t 0)), o 17 (.mv (.t 4)), o 18 (.iaddr 1 (.t 16) (.t 17)), o 19 (.load none (.t 18)), o 20 (.iaddr 1 (.t 14) (.t 15)), st (.store 1 (.t 20) (.t 19))]))
    (.reg [o 12 (.mv (.t 4)), o 13 (.bin .add (.t 12) (.c (.int .i64 1))), o 4 (.mv (.t 13))]))))))
  (.seq (.reg [o 21 (.mv (.t 3)), o 2 (.mv (.t 21))])
  (.ret)))),
  [.tmp 2]⟩
/- loop.example/g03011/laws.szHeader -/
def F57 : Fun := ⟨20,
  .seq (.reg [o 2 (.box 2 (.t 0)), o 4 (.mv (.c (.int .i64 0)))])
  (.seq (.reg [o 5 (.mv (.t 1)), o 6 (.faddr 0 (.t 2)), o 7 (.load none (.t 6)), o 8 (.lenS (.t 7)), o 9 (.bin .sub (.t 5) (.t 8)), o 1 (.mv (.t 9))])
  (.seq (.seq (.reg [o 10 (.mv (.t 1)), o 11 (.bin .lss (.t 10) (.c (.int .i64 0)))])
  (.cond (.t 11) (.seq (.reg [o 4 (.mv (.c (.int .i64 (-1))))])
   (.ret)) (.skip)))
  (.seq (.reg [o 12 (.mv (.t 1)), o 13 (.faddr 1 (.t 2)), o 14 (.load none (.t 13)), o 15 (.lenS (.t 14)), o 16 (.bin .sub (.t 12) (.t 15)), o 1 (.mv (.t 16))])
  (.seq (.seq (.reg [o 17 (.mv (.t 1)), o 18 (.bin .lss (.t 17) (.c (.int .i64 0)))])
  (.cond (.t 18) (.seq (.reg [o 4 (.mv (.c (.int .i64 (-1))))])
   (.ret)) (.skip)))
  (.seq (.reg [o 19 (.mv (.t 1)), o 4 (.mv (.t 19))])
  (.ret)))))),
  [.tmp 4]⟩
/- loop.example/g03011/laws.toHeader -/
def F58 : Fun := ⟨11,
  .seq (.reg [o 1 (.box 2 (.t 0)), o 2 (.new 2 [(.str []), (.str [])])])
  (.seq (.reg [o 3 (.new 2 [(.str []), (.str [])])])
  (.seq (.reg [o 4 (.faddr 0 (.t 1)), o 5 (.load none (.t 4)), o 6 (.faddr 0 (.t 3)), st (.store 1 (.t 6) (.t 5))])
  (.seq (.reg [o 7 (.faddr 1 (.t 1)), o 8 (.load none (.t 7)), o 9 (.faddr 1 (.t 3)), st (.store 1 (.t 9) (.t 8))])
  (.seq (.reg [o 10 (.load (some 2) (.t 3)), st (.store 2 (.t 2) (.t 10))])
  (.ret))))),
  [.cell 2 (some 2)]⟩
/- loop.example/g03011/laws.eqHeader -/
def F59 : Fun := ⟨15,
  .seq (.reg [o 2 (.box 2 (.t 0)), o 3 (.box 2 (.t 1)), o 4 (.mv (.c (.bool false)))])
  (.seq (.seq (.reg [o 5 (.faddr 0 (.t 2)), o 6 (.load none (.t 5)), o 7 (.faddr 0 (.t 3)), o 8 (.load none (.t 7)), o 9 (.bin .neq (.t 6) (.t 8))])
  (.cond (.t 9) (.seq (.reg [o 4 (.mv (.c (.bool false)))])
   (.ret)) (.skip)))
  (.seq (.seq (.reg [o 10 (.faddr 1 (.t 2)), o 11 (.load none (.t 10)), o 12 (.faddr 1 (.t 3)), o 13 (.load none (.t 12)), o 14 (.bin .neq (.t 11) (.t 13))])
  (.cond (.t 14) (.seq (.reg [o 4 (.mv (.c (.bool false)))])
   (.ret)) (.skip)))
  (.seq (.reg [o 4 (.mv (.c (.bool true)))])
  (.ret)))),
  [.tmp 4]⟩

theorem c4 : compF Try.prog 4 = some F4 := by kernel_rfl
theorem c5 : compF Try.prog 5 = some F5 := by kernel_rfl
theorem c6 : compF Try.prog 6 = some F6 := by kernel_rfl
theorem c7 : compF Try.prog 7 = some F7 := by kernel_rfl
theorem c8 : compF Try.prog 8 = some F8 := by kernel_rfl
theorem c9 : compF Try.prog 9 = some F9 := by kernel_rfl
theorem c10 : compF Try.prog 10 = some F10 := by kernel_rfl
theorem c11 : compF Try.prog 11 = some F11 := by kernel_rfl
theorem c12 : compF Try.prog 12 = some F12 := by kernel_rfl
theorem c13 : compF Try.prog 13 = some F13 := by kernel_rfl
theorem c14 : compF Try.prog 14 = some F14 := by kernel_rfl
theorem c15 : compF Try.prog 15 = some F15 := by kernel_rfl
theorem c16 : compF Try.prog 16 = some F16 := by kernel_rfl
theorem c17 : compF Try.prog 17 = some F17 := by kernel_rfl
theorem c18 : compF Try.prog 18 = some F18 := by kernel_rfl
theorem c19 : compF Try.prog 19 = some F19 := by kernel_rfl
theorem c20 : compF Try.prog 20 = some F20 := by kernel_rfl
theorem c21 : compF Try.prog 21 = some F21 := by kernel_rfl
theorem c22 : compF Try.prog 22 = some F22 := by kernel_rfl
theorem c23 : compF Try.prog 23 = some F23 := by kernel_rfl
theorem c24 : compF Try.prog 24 = some F24 := by kernel_rfl
theorem c25 : compF Try.prog 25 = some F25 := by kernel_rfl
theorem c26 : compF Try.prog 26 = some F26 := by kernel_rfl
theorem c27 : compF Try.prog 27 = some F27 := by kernel_rfl
theorem c28 : compF Try.prog 28 = some F28 := by kernel_rfl
theorem c29 : compF Try.prog 29 = some F29 := by kernel_rfl
theorem c30 : compF Try.prog 30 = some F30 := by kernel_rfl
theorem c31 : compF Try.prog 31 = some F31 := by kernel_rfl
theorem c32 : compF Try.prog 32 = some F32 := by kernel_rfl
theorem c33 : compF Try.prog 33 = some F33 := by kernel_rfl
theorem c34 : compF Try.prog 34 = some F34 := by kernel_rfl
theorem c35 : compF Try.prog 35 = some F35 := by kernel_rfl
theorem c36 : compF Try.prog 36 = some F36 := by kernel_rfl
theorem c37 : compF Try.prog 37 = some F37 := by kernel_rfl
theorem c38 : compF Try.prog 38 = some F38 := by kernel_rfl
theorem c39 : compF Try.prog 39 = some F39 := by kernel_rfl
theorem c40 : compF Try.prog 40 = some F40 := by kernel_rfl
theorem c41 : compF Try.prog 41 = some F41 := by kernel_rfl
theorem c42 : compF Try.prog 42 = some F42 := by kernel_rfl
theorem c43 : compF Try.prog 43 = some F43 := by kernel_rfl
theorem c44 : compF Try.prog 44 = some F44 := by kernel_rfl
theorem c45 : compF Try.prog 45 = some F45 := by kernel_rfl
theorem c46 : compF Try.prog 46 = some F46 := by kernel_rfl
theorem c47 : compF Try.prog 47 = some F47 := by kernel_rfl
theorem c48 : compF Try.prog 48 = some F48 := by kernel_rfl
theorem c49 : compF Try.prog 49 = some F49 := by kernel_rfl
theorem c50 : compF Try.prog 50 = some F50 := by kernel_rfl
theorem c51 : compF Try.prog 51 = some F51 := by kernel_rfl
theorem c52 : compF Try.prog 52 = some F52 := by kernel_rfl
theorem c53 : compF Try.prog 53 = some F53 := by kernel_rfl
theorem c54 : compF Try.prog 54 = some F54 := by kernel_rfl
theorem c55 : compF Try.prog 55 = some F55 := by kernel_rfl
theorem c56 : compF Try.prog 56 = some F56 := by kernel_rfl
theorem c57 : compF Try.prog 57 = some F57 := by kernel_rfl
theorem c58 : compF Try.prog 58 = some F58 := by kernel_rfl
theorem c59 : compF Try.prog 59 = some F59 := by kernel_rfl
end A
end Go.Proofs.Ytbjefkkbmbgakaa
