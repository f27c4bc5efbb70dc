import Derived.Test.YtkcilmkienlnoaaGreatDoorRows
import Derived.Test.YtkcilmkienlnoaaGreatDoorB06

/-
  The functions of the seat in the small language: printed by a program (wip/tools/irdump.lean), each held against the model's code. No condition.
-/


namespace Go.Proofs.YtkcilmkienlnoaaGreatDoor
namespace A
set_option linter.unusedVariables false
/- loop.example/g03011/laws.FnExactCrashWork -/
def F3 : Fun := ⟨101,
  .seq (.reg [o 2 (.box 8 (.t 0)), o 4 (.mv (.c (.bool false)))])
  (.seq (.reg [o 5 (.mv (.c (.int .i64 1048576)))])
  (.seq (.reg [o 16 (.load (some 8) (.t 2)), o 17 (.mv (.t 5)), o 18 (.call 4 [(.t 16), (.t 17)]), o 5 (.mv (.t 18))])
  (.seq (.seq (.reg [o 19 (.mv (.t 5)), o 20 (.bin .lss (.t 19) (.c (.int .i64 0)))])
  (.cond (.t 20) (.seq (.reg [o 4 (.mv (.c (.bool true)))])
   (.ret)) (.skip)))
  (.seq (.reg [o 22 (.load (some 8) (.t 2)), o 23 (.call 6 [(.t 22)]), o 24 (.mv (.t 1)), o 25 (.call 5 [(.t 23), (.t 24)]), o 21 (.mv (.t 25)), o 26 (.extract (.t 21) 0), o 27 (.extract (.t 21) 1), o 6 (.new 8 [.nsl, .nsl, .nsl, .nsl, .nsl, .nsl, (.int .i64 0), (.int .i64 0)]), st (.store 8 (.t 6) (.t 26)), o 7 (.mv (.t 27))])
  (.seq (.reg [o 28 (.load (some 8) (.t 2)), o 29 (.call 6 [(.t 28)]), o 8 (.new 8 [.nsl, .nsl, .nsl, .nsl, .nsl, .nsl, (.int .i64 0), (.int .i64 0)]), st (.store 8 (.t 8) (.t 29))])
  (.seq (.reg [o 31 (.load (some 8) (.t 8)), o 32 (.mv (.t 1)), o 33 (.call 7 [(.t 31), (.t 32)]), o 30 (.mv (.t 33)), o 34 (.extract (.t 30) 0), o 35 (.extract (.t 30) 1), o 9 (.new 8 [.nsl, .nsl, .nsl, .nsl, .nsl, .nsl, (.int .i64 0), (.int .i64 0)]), st (.store 8 (.t 9) (.t 34)), o 10 (.mv (.t 35))])
  (.seq (.seq (.reg [o 36 (.load (some 8) (.t 9)), o 37 (.load (some 8) (.t 6)), o 38 (.call 8 [(.t 36), (.t 37)]), o 39 (.un .not (.t 38)), o 40 (.mv (.t 39)), og 41 (.mv (.t 10)) 40 false, og 42 (.mv (.t 7)) 40 false, og 43 (.binb .neq (.t 41) (.t 42)) 40 false, o 44 (.pick (.t 40) (.c (.bool true)) (.t 43))])
  (.cond (.t 44) (.seq (.reg [o 4 (.mv (.c (.bool false)))])
   (.ret)) (.skip)))
  (.seq (.seq (.draw [o 45 (.load (some 8) (.t 8)), o 46 (.load (some 8) (.t 2)), o 47 (.callF 6 [(.t 46)]), o 48 (.callF 8 [(.t 45), (.t 47)]), o 49 (.un .not (.t 48))])
  (.cond (.t 49) (.seq (.reg [o 4 (.mv (.c (.bool false)))])
   (.ret)) (.skip)))
  (.seq (.reg [o 11 (.mv (.c (.int .i64 1)))])
  (.seq (.reg [o 50 (.load (some 8) (.t 8)), o 51 (.mv (.t 11)), o 52 (.call 9 [(.t 50), (.t 51)]), o 11 (.mv (.t 52))])
  (.seq (.seq (.reg [o 53 (.mv (.t 11)), o 54 (.bin .lss (.t 53) (.c (.int .i64 0))), o 55 (.mv (.t 54)), og 56 (.load (some 8) (.t 9)) 55 false, og 57 (.load (some 8) (.t 6)) 55 false, og 58 (.call 8 [(.t 56), (.t 57)]) 55 false, og 59 (.un .not (.t 58)) 55 false, o 60 (.pick (.t 55) (.c (.bool true)) (.t 59)), o 61 (.mv (.t 60)), og 62 (.mv (.t 10)) 61 false, og 63 (.mv (.t 7)) 61 false, og 64 (.binb .neq (.t 62) (.t 63)) 61 false, o 65 (.pick (.t 61) (.c (.bool true)) (.t 64))])
  (.cond (.t 65) (.seq (.reg [o 4 (.mv (.c (.bool false)))])
   (.ret)) (.skip)))
  (.seq (.reg [o 12 (.mv (.c (.int .i64 1)))])
  (.seq (.reg [o 66 (.load (some 8) (.t 9)), o 67 (.mv (.t 12)), o 68 (.call 9 [(.t 66), (.t 67)]), o 12 (.mv (.t 68))])
  (.seq (.reg [o 13 (.mv (.c (.int .i64 1)))])
  (.seq (.reg [o 69 (.load (some 8) (.t 9)), o 70 (.mv (.t 13)), o 71 (.call 10 [(.t 69), (.t 70)]), o 13 (.mv (.t 71))])
  (.seq (.seq (.reg [o 72 (.mv (.t 13)), o 73 (.bin .lss (.t 72) (.c (.int .i64 0)))])
  (.cond (.t 73) (.seq (.reg [o 4 (.mv (.c (.bool false)))])
   (.ret)) (.skip)))
  (.seq (.seq (.reg [o 74 (.mv (.t 13)), o 75 (.mv (.t 12)), o 76 (.bin .neq (.t 74) (.t 75))])
  (.cond (.t 76) (.seq (.reg [o 4 (.mv (.c (.bool false)))])
   (.ret)) (.skip)))
  (.seq (.reg [o 78 (.load (some 8) (.t 2)), o 79 (.call 6 [(.t 78)]), o 80 (.mv (.t 1)), o 81 (.call 7 [(.t 79), (.t 80)]), o 77 (.mv (.t 81)), o 82 (.extract (.t 77) 0), o 83 (.extract (.t 77) 1), o 14 (.new 8 [.nsl, .nsl, .nsl, .nsl, .nsl, .nsl, (.int .i64 0), (.int .i64 0)]), st (.store 8 (.t 14) (.t 82)), o 15 (.mv (.t 83))])
  (.seq (.seq (.reg [o 84 (.load (some 8) (.t 14)), o 85 (.load (some 8) (.t 6)), o 86 (.call 8 [(.t 84), (.t 85)]), o 87 (.un .not (.t 86)), o 88 (.mv (.t 87)), og 89 (.mv (.t 15)) 88 false, og 90 (.mv (.t 7)) 88 false, og 91 (.binb .neq (.t 89) (.t 90)) 88 false, o 92 (.pick (.t 88) (.c (.bool true)) (.t 91))])
  (.cond (.t 92) (.seq (.reg [o 4 (.mv (.c (.bool false)))])
   (.ret)) (.skip)))
  (.seq (.reg [o 13 (.mv (.c (.int .i64 1)))])
  (.seq (.reg [o 93 (.load (some 8) (.t 9)), o 94 (.mv (.t 13)), o 95 (.call 10 [(.t 93), (.t 94)]), o 13 (.mv (.t 95))])
  (.seq (.seq (.reg [o 96 (.mv (.t 13)), o 97 (.bin .lss (.t 96) (.c (.int .i64 0)))])
  (.cond (.t 97) (.seq (.reg [o 4 (.mv (.c (.bool false)))])
   (.ret)) (.skip)))
  (.seq (.seq (.reg [o 98 (.mv (.t 13)), o 99 (.mv (.t 12)), o 100 (.bin .neq (.t 98) (.t 99))])
  (.cond (.t 100) (.seq (.reg [o 4 (.mv (.c (.bool false)))])
   (.ret)) (.skip)))
  (.seq (.reg [o 4 (.mv (.c (.bool true)))])
  (.ret))))))))))))))))))))))))),
  [.tmp 4]⟩
/- loop.example/g03011/laws.szServer -/
def F4 : Fun := ⟨42,
  .seq (.reg [o 2 (.box 8 (.t 0)), o 4 (.mv (.c (.int .i64 0)))])
  (.seq (.reg [o 5 (.faddr 0 (.t 2)), o 6 (.load none (.t 5)), o 7 (.mv (.t 1)), o 8 (.call 11 [(.t 6), (.t 7)]), o 1 (.mv (.t 8))])
  (.seq (.seq (.reg [o 9 (.mv (.t 1)), o 10 (.bin .lss (.t 9) (.c (.int .i64 0)))])
  (.cond (.t 10) (.seq (.reg [o 4 (.mv (.c (.int .i64 (-1))))])
   (.ret)) (.skip)))
  (.seq (.reg [o 11 (.faddr 1 (.t 2)), o 12 (.load none (.t 11)), o 13 (.mv (.t 1)), o 14 (.call 12 [(.t 12), (.t 13)]), o 1 (.mv (.t 14))])
  (.seq (.seq (.reg [o 15 (.mv (.t 1)), o 16 (.bin .lss (.t 15) (.c (.int .i64 0)))])
  (.cond (.t 16) (.seq (.reg [o 4 (.mv (.c (.int .i64 (-1))))])
   (.ret)) (.skip)))
  (.seq (.reg [o 17 (.faddr 2 (.t 2)), o 18 (.load none (.t 17)), o 19 (.mv (.t 1)), o 20 (.call 13 [(.t 18), (.t 19)]), o 1 (.mv (.t 20))])
  (.seq (.seq (.reg [o 21 (.mv (.t 1)), o 22 (.bin .lss (.t 21) (.c (.int .i64 0)))])
  (.cond (.t 22) (.seq (.reg [o 4 (.mv (.c (.int .i64 (-1))))])
   (.ret)) (.skip)))
  (.seq (.reg [o 23 (.faddr 3 (.t 2)), o 24 (.load none (.t 23)), o 25 (.mv (.t 1)), o 26 (.call 14 [(.t 24), (.t 25)]), o 1 (.mv (.t 26))])
  (.seq (.seq (.reg [o 27 (.mv (.t 1)), o 28 (.bin .lss (.t 27) (.c (.int .i64 0)))])
  (.cond (.t 28) (.seq (.reg [o 4 (.mv (.c (.int .i64 (-1))))])
   (.ret)) (.skip)))
  (.seq (.reg [o 29 (.faddr 4 (.t 2)), o 30 (.load none (.t 29)), o 31 (.mv (.t 1)), o 32 (.call 15 [(.t 30), (.t 31)]), o 1 (.mv (.t 32))])
  (.seq (.seq (.reg [o 33 (.mv (.t 1)), o 34 (.bin .lss (.t 33) (.c (.int .i64 0)))])
  (.cond (.t 34) (.seq (.reg [o 4 (.mv (.c (.int .i64 (-1))))])
   (.ret)) (.skip)))
  (.seq (.reg [o 35 (.faddr 5 (.t 2)), o 36 (.load none (.t 35)), o 37 (.mv (.t 1)), o 38 (.call 16 [(.t 36), (.t 37)]), o 1 (.mv (.t 38))])
  (.seq (.seq (.reg [o 39 (.mv (.t 1)), o 40 (.bin .lss (.t 39) (.c (.int .i64 0)))])
  (.cond (.t 40) (.seq (.reg [o 4 (.mv (.c (.int .i64 (-1))))])
   (.ret)) (.skip)))
  (.seq (.reg [o 41 (.mv (.t 1)), o 4 (.mv (.t 41))])
  (.ret)))))))))))))),
  [.tmp 4]⟩
/- loop.example/g03011/spec.CrashWork -/
def F5 : Fun := ⟨98,
  .seq (.reg [o 2 (.box 8 (.t 0)), o 4 (.new 8 [.nsl, .nsl, .nsl, .nsl, .nsl, .nsl, (.int .i64 0), (.int .i64 0)]), o 5 (.mv (.c (.bool false)))])
  (.seq (.reg [o 9 (.load (some 8) (.t 2)), o 10 (.call 17 [(.t 9)]), o 6 (.new 8 [.nsl, .nsl, .nsl, .nsl, .nsl, .nsl, (.int .i64 0), (.int .i64 0)]), st (.store 8 (.t 6) (.t 10))])
  (.seq (.seq (.reg [o 11 (.mv (.t 1)), o 12 (.faddr 4 (.t 2)), o 13 (.load none (.t 12)), o 14 (.lenL (.t 13)), o 15 (.bin .sub (.t 14) (.c (.int .i64 1))), o 16 (.call 18 [(.t 11), (.c (.int .i64 0)), (.t 15)]), o 17 (.un .not (.t 16)), o 18 (.mv (.t 17)), og 19 (.faddr 4 (.t 2)) 18 false, og 20 (.load none (.t 19)) 18 false, og 21 (.mv (.t 1)) 18 false, og 22 (.iaddr 9 (.t 20) (.t 21)) 18 false, og 23 (.faddr 0 (.t 22)) 18 false, og 24 (.load none (.t 23)) 18 false, og 25 (.bin .eql (.t 24) (.c (.int .i64 2))) 18 false, o 26 (.pick (.t 18) (.c (.bool true)) (.t 25))])
  (.cond (.t 26) (.seq (.reg [o 27 (.load (some 8) (.t 6)), st (.store 8 (.t 4) (.t 27)), o 5 (.mv (.c (.bool false)))])
   (.ret)) (.skip)))
  (.seq (.reg [o 28 (.faddr 4 (.t 6)), o 29 (.load none (.t 28)), o 30 (.mv (.t 1)), o 31 (.iaddr 9 (.t 29) (.t 30)), o 32 (.load (some 9) (.t 31)), o 7 (.new 9 [(.int .i64 0), (.int .i64 0), (.str []), .nsl, .nsl, (.str []), (.str []), .nsl, (.int .i64 0)]), st (.store 9 (.t 7) (.t 32))])
  (.seq (.reg [o 33 (.faddr 4 (.t 6)), o 34 (.load none (.t 33)), o 35 (.mv (.t 1)), o 36 (.faddr 8 (.t 7)), o 37 (.load none (.t 36)), o 38 (.build [(.int .i64 0), (.int .i64 0), (.str []), .nsl, .nsl, (.str []), (.str []), .nsl, (.int .i64 0)] [(0, 1, (.c (.int .i64 2))), (8, 1, (.t 37))]), o 39 (.iaddr 9 (.t 34) (.t 35)), st (.store 9 (.t 39) (.t 38))])
  (.seq (.seq (.reg [o 40 (.faddr 0 (.t 7)), o 41 (.load none (.t 40)), o 42 (.bin .neq (.t 41) (.c (.int .i64 1)))])
  (.cond (.t 42) (.seq (.reg [o 43 (.load (some 8) (.t 6)), st (.store 8 (.t 4) (.t 43)), o 5 (.mv (.c (.bool true)))])
   (.ret)) (.skip)))
  (.seq (.reg [o 44 (.faddr 1 (.t 7)), o 45 (.load (some 5) (.t 44)), o 46 (.bslice 5 [(.int .i64 0), (.str []), .nsl, .nsl, (.str [])] 1 [(0, (.t 45))]), o 47 (.faddr 3 (.t 6)), o 48 (.load none (.t 47)), o 49 (.append 5 88 (.t 46) (.t 48)), o 50 (.faddr 3 (.t 6)), st (.store 1 (.t 50) (.t 49))])
  (.seq (.reg [o 51 (.faddr 2 (.t 2)), o 52 (.load none (.t 51)), o 53 (.mv (.t 1)), o 54 (.bin .add (.t 53) (.c (.int .i64 1))), o 55 (.call 19 [(.t 52), (.t 54)]), o 56 (.faddr 2 (.t 6)), st (.store 1 (.t 56) (.t 55))])
  (.seq (.reg [o 57 (.faddr 7 (.t 7)), o 58 (.load none (.t 57)), o 59 (.faddr 1 (.t 7)), o 60 (.faddr 1 (.t 59)), o 61 (.faddr 0 (.t 60)), o 62 (.load none (.t 61)), o 63 (.call 20 [(.t 58), (.t 62)]), o 8 (.mv (.t 63))])
  (.seq (.seq (.reg [o 64 (.mv (.t 8)), o 65 (.faddr 1 (.t 6)), o 66 (.load none (.t 65)), o 67 (.lenL (.t 66)), o 68 (.bin .sub (.t 67) (.c (.int .i64 1))), o 69 (.call 18 [(.t 64), (.c (.int .i64 0)), (.t 68)]), o 70 (.mv (.t 69)), og 71 (.faddr 1 (.t 6)) 70 true, og 72 (.load none (.t 71)) 70 true, og 73 (.mv (.t 8)) 70 true, og 74 (.iaddr 4 (.t 72) (.t 73)) 70 true, og 75 (.faddr 0 (.t 74)) 70 true, og 76 (.load none (.t 75)) 70 true, og 77 (.bin .rem (.t 76) (.c (.int .i64 2))) 70 true, og 78 (.bin .eql (.t 77) (.c (.int .i64 0))) 70 true, o 79 (.pick (.t 70) (.t 78) (.c (.bool false)))])
  (.cond (.t 79) (.reg [o 80 (.faddr 1 (.t 6)), o 81 (.load none (.t 80)), o 82 (.mv (.t 8)), o 83 (.faddr 1 (.t 6)), o 84 (.load none (.t 83)), o 85 (.mv (.t 8)), o 86 (.iaddr 4 (.t 84) (.t 85)), o 87 (.faddr 0 (.t 86)), o 88 (.load none (.t 87)), o 89 (.bin .add (.t 88) (.c (.int .i64 1))), o 90 (.mv (.t 1)), o 91 (.bin .add (.t 90) (.c (.int .i64 1))), o 92 (.faddr 7 (.t 7)), o 93 (.load none (.t 92)), o 94 (.callF 21 [(.t 93)]), o 95 (.build [(.int .i64 0), (.int .i64 0), (.int .i64 0), .nsl] [(0, 1, (.t 89)), (1, 1, (.t 91)), (2, 1, (.t 94))]), o 96 (.iaddr 4 (.t 81) (.t 82)), st (.store 4 (.t 96) (.t 95))]) (.skip)))
  (.seq (.reg [o 97 (.load (some 8) (.t 6)), st (.store 8 (.t 4) (.t 97)), o 5 (.mv (.c (.bool true)))])
  (.ret))))))))))),
  [.cell 4 (some 8), .tmp 5]⟩
/- loop.example/g03011/laws.toServer -/
def F6 : Fun := ⟨35,
  .seq (.reg [o 1 (.box 8 (.t 0)), o 2 (.new 8 [.nsl, .nsl, .nsl, .nsl, .nsl, .nsl, (.int .i64 0), (.int .i64 0)])])
  (.seq (.reg [o 3 (.new 8 [.nsl, .nsl, .nsl, .nsl, .nsl, .nsl, (.int .i64 0), (.int .i64 0)])])
  (.seq (.reg [o 4 (.faddr 0 (.t 1)), o 5 (.load none (.t 4)), o 6 (.call 22 [(.t 5)]), o 7 (.faddr 0 (.t 3)), st (.store 1 (.t 7) (.t 6))])
  (.seq (.reg [o 8 (.faddr 1 (.t 1)), o 9 (.load none (.t 8)), o 10 (.call 23 [(.t 9)]), o 11 (.faddr 1 (.t 3)), st (.store 1 (.t 11) (.t 10))])
  (.seq (.reg [o 12 (.faddr 2 (.t 1)), o 13 (.load none (.t 12)), o 14 (.call 24 [(.t 13)]), o 15 (.faddr 2 (.t 3)), st (.store 1 (.t 15) (.t 14))])
  (.seq (.reg [o 16 (.faddr 3 (.t 1)), o 17 (.load none (.t 16)), o 18 (.call 25 [(.t 17)]), o 19 (.faddr 3 (.t 3)), st (.store 1 (.t 19) (.t 18))])
  (.seq (.reg [o 20 (.faddr 4 (.t 1)), o 21 (.load none (.t 20)), o 22 (.call 26 [(.t 21)]), o 23 (.faddr 4 (.t 3)), st (.store 1 (.t 23) (.t 22))])
  (.seq (.reg [o 24 (.faddr 5 (.t 1)), o 25 (.load none (.t 24)), o 26 (.call 27 [(.t 25)]), o 27 (.faddr 5 (.t 3)), st (.store 1 (.t 27) (.t 26))])
  (.seq (.reg [o 28 (.faddr 6 (.t 1)), o 29 (.load none (.t 28)), o 30 (.faddr 6 (.t 3)), st (.store 1 (.t 30) (.t 29))])
  (.seq (.reg [o 31 (.faddr 7 (.t 1)), o 32 (.load none (.t 31)), o 33 (.faddr 7 (.t 3)), st (.store 1 (.t 33) (.t 32))])
  (.seq (.reg [o 34 (.load (some 8) (.t 3)), st (.store 8 (.t 2) (.t 34))])
  (.ret))))))))))),
  [.cell 2 (some 8)]⟩
/- loop.example/g03011/impl.CrashWork -/
def F7 : Fun := ⟨98,
  .seq (.reg [o 2 (.box 8 (.t 0)), o 4 (.new 8 [.nsl, .nsl, .nsl, .nsl, .nsl, .nsl, (.int .i64 0), (.int .i64 0)]), o 5 (.mv (.c (.bool false)))])
  (.seq (.reg [o 9 (.load (some 8) (.t 2)), o 10 (.call 28 [(.t 9)]), o 6 (.new 8 [.nsl, .nsl, .nsl, .nsl, .nsl, .nsl, (.int .i64 0), (.int .i64 0)]), st (.store 8 (.t 6) (.t 10))])
  (.seq (.seq (.reg [o 11 (.mv (.t 1)), o 12 (.faddr 4 (.t 2)), o 13 (.load none (.t 12)), o 14 (.lenL (.t 13)), o 15 (.bin .sub (.t 14) (.c (.int .i64 1))), o 16 (.call 29 [(.t 11), (.c (.int .i64 0)), (.t 15)]), o 17 (.un .not (.t 16)), o 18 (.mv (.t 17)), og 19 (.faddr 4 (.t 2)) 18 false, og 20 (.load none (.t 19)) 18 false, og 21 (.mv (.t 1)) 18 false, og 22 (.iaddr 9 (.t 20) (.t 21)) 18 false, og 23 (.faddr 0 (.t 22)) 18 false, og 24 (.load none (.t 23)) 18 false, og 25 (.bin .eql (.t 24) (.c (.int .i64 2))) 18 false, o 26 (.pick (.t 18) (.c (.bool true)) (.t 25))])
  (.cond (.t 26) (.seq (.reg [o 27 (.load (some 8) (.t 6)), st (.store 8 (.t 4) (.t 27)), o 5 (.mv (.c (.bool false)))])
   (.ret)) (.skip)))
  (.seq (.reg [o 28 (.faddr 4 (.t 6)), o 29 (.load none (.t 28)), o 30 (.mv (.t 1)), o 31 (.iaddr 9 (.t 29) (.t 30)), o 32 (.load (some 9) (.t 31)), o 7 (.new 9 [(.int .i64 0), (.int .i64 0), (.str []), .nsl, .nsl, (.str []), (.str []), .nsl, (.int .i64 0)]), st (.store 9 (.t 7) (.t 32))])
  (.seq (.reg [o 33 (.faddr 4 (.t 6)), o 34 (.load none (.t 33)), o 35 (.mv (.t 1)), o 36 (.faddr 8 (.t 7)), o 37 (.load none (.t 36)), o 38 (.build [(.int .i64 0), (.int .i64 0), (.str []), .nsl, .nsl, (.str []), (.str []), .nsl, (.int .i64 0)] [(0, 1, (.c (.int .i64 2))), (8, 1, (.t 37))]), o 39 (.iaddr 9 (.t 34) (.t 35)), st (.store 9 (.t 39) (.t 38))])
  (.seq (.seq (.reg [o 40 (.faddr 0 (.t 7)), o 41 (.load none (.t 40)), o 42 (.bin .neq (.t 41) (.c (.int .i64 1)))])
  (.cond (.t 42) (.seq (.reg [o 43 (.load (some 8) (.t 6)), st (.store 8 (.t 4) (.t 43)), o 5 (.mv (.c (.bool true)))])
   (.ret)) (.skip)))
  (.seq (.reg [o 44 (.faddr 3 (.t 6)), o 45 (.load none (.t 44)), o 46 (.faddr 1 (.t 7)), o 47 (.load (some 5) (.t 46)), o 48 (.bslice 5 [(.int .i64 0), (.str []), .nsl, .nsl, (.str [])] 1 [(0, (.t 47))]), o 49 (.call 30 [(.t 45), (.c (.int .i64 0)), (.t 48)]), o 50 (.faddr 3 (.t 6)), st (.store 1 (.t 50) (.t 49))])
  (.seq (.reg [o 51 (.faddr 2 (.t 6)), o 52 (.load none (.t 51)), o 53 (.mv (.t 1)), o 54 (.bin .add (.t 53) (.c (.int .i64 1))), o 55 (.call 31 [(.t 52), (.t 54)]), o 56 (.faddr 2 (.t 6)), st (.store 1 (.t 56) (.t 55))])
  (.seq (.reg [o 57 (.faddr 7 (.t 7)), o 58 (.load none (.t 57)), o 59 (.faddr 1 (.t 7)), o 60 (.faddr 1 (.t 59)), o 61 (.faddr 0 (.t 60)), o 62 (.load none (.t 61)), o 63 (.call 32 [(.t 58), (.t 62)]), o 8 (.mv (.t 63))])
  (.seq (.seq (.reg [o 64 (.mv (.t 8)), o 65 (.faddr 1 (.t 6)), o 66 (.load none (.t 65)), o 67 (.lenL (.t 66)), o 68 (.bin .sub (.t 67) (.c (.int .i64 1))), o 69 (.call 29 [(.t 64), (.c (.int .i64 0)), (.t 68)]), o 70 (.mv (.t 69)), og 71 (.faddr 1 (.t 6)) 70 true, og 72 (.load none (.t 71)) 70 true, og 73 (.mv (.t 8)) 70 true, og 74 (.iaddr 4 (.t 72) (.t 73)) 70 true, og 75 (.faddr 0 (.t 74)) 70 true, og 76 (.load none (.t 75)) 70 true, og 77 (.bin .rem (.t 76) (.c (.int .i64 2))) 70 true, og 78 (.bin .eql (.t 77) (.c (.int .i64 0))) 70 true, o 79 (.pick (.t 70) (.t 78) (.c (.bool false)))])
  (.cond (.t 79) (.reg [o 80 (.faddr 1 (.t 6)), o 81 (.load none (.t 80)), o 82 (.mv (.t 8)), o 83 (.faddr 1 (.t 6)), o 84 (.load none (.t 83)), o 85 (.mv (.t 8)), o 86 (.iaddr 4 (.t 84) (.t 85)), o 87 (.faddr 0 (.t 86)), o 88 (.load none (.t 87)), o 89 (.bin .add (.t 88) (.c (.int .i64 1))), o 90 (.mv (.t 1)), o 91 (.bin .add (.t 90) (.c (.int .i64 1))), o 92 (.faddr 7 (.t 7)), o 93 (.load none (.t 92)), o 94 (.callF 33 [(.t 93)]), o 95 (.build [(.int .i64 0), (.int .i64 0), (.int .i64 0), .nsl] [(0, 1, (.t 89)), (1, 1, (.t 91)), (2, 1, (.t 94))]), o 96 (.iaddr 4 (.t 81) (.t 82)), st (.store 4 (.t 96) (.t 95))]) (.skip)))
  (.seq (.reg [o 97 (.load (some 8) (.t 6)), st (.store 8 (.t 4) (.t 97)), o 5 (.mv (.c (.bool true)))])
  (.ret))))))))))),
  [.cell 4 (some 8), .tmp 5]⟩
/- loop.example/g03011/laws.eqServer -/
def F8 : Fun := ⟨51,
  .seq (.reg [o 2 (.box 8 (.t 0)), o 3 (.box 8 (.t 1)), o 4 (.mv (.c (.bool false)))])
  (.seq (.seq (.reg [o 5 (.faddr 0 (.t 2)), o 6 (.load none (.t 5)), o 7 (.faddr 0 (.t 3)), o 8 (.load none (.t 7)), o 9 (.call 34 [(.t 6), (.t 8)]), o 10 (.un .not (.t 9))])
  (.cond (.t 10) (.seq (.reg [o 4 (.mv (.c (.bool false)))])
   (.ret)) (.skip)))
  (.seq (.seq (.reg [o 11 (.faddr 1 (.t 2)), o 12 (.load none (.t 11)), o 13 (.faddr 1 (.t 3)), o 14 (.load none (.t 13)), o 15 (.call 35 [(.t 12), (.t 14)]), o 16 (.un .not (.t 15))])
  (.cond (.t 16) (.seq (.reg [o 4 (.mv (.c (.bool false)))])
   (.ret)) (.skip)))
  (.seq (.seq (.reg [o 17 (.faddr 2 (.t 2)), o 18 (.load none (.t 17)), o 19 (.faddr 2 (.t 3)), o 20 (.load none (.t 19)), o 21 (.call 36 [(.t 18), (.t 20)]), o 22 (.un .not (.t 21))])
  (.cond (.t 22) (.seq (.reg [o 4 (.mv (.c (.bool false)))])
   (.ret)) (.skip)))
  (.seq (.seq (.reg [o 23 (.faddr 3 (.t 2)), o 24 (.load none (.t 23)), o 25 (.faddr 3 (.t 3)), o 26 (.load none (.t 25)), o 27 (.call 37 [(.t 24), (.t 26)]), o 28 (.un .not (.t 27))])
  (.cond (.t 28) (.seq (.reg [o 4 (.mv (.c (.bool false)))])
   (.ret)) (.skip)))
  (.seq (.seq (.reg [o 29 (.faddr 4 (.t 2)), o 30 (.load none (.t 29)), o 31 (.faddr 4 (.t 3)), o 32 (.load none (.t 31)), o 33 (.call 38 [(.t 30), (.t 32)]), o 34 (.un .not (.t 33))])
  (.cond (.t 34) (.seq (.reg [o 4 (.mv (.c (.bool false)))])
   (.ret)) (.skip)))
  (.seq (.seq (.reg [o 35 (.faddr 5 (.t 2)), o 36 (.load none (.t 35)), o 37 (.faddr 5 (.t 3)), o 38 (.load none (.t 37)), o 39 (.call 39 [(.t 36), (.t 38)]), o 40 (.un .not (.t 39))])
  (.cond (.t 40) (.seq (.reg [o 4 (.mv (.c (.bool false)))])
   (.ret)) (.skip)))
  (.seq (.seq (.reg [o 41 (.faddr 6 (.t 2)), o 42 (.load none (.t 41)), o 43 (.faddr 6 (.t 3)), o 44 (.load none (.t 43)), o 45 (.bin .neq (.t 42) (.t 44))])
  (.cond (.t 45) (.seq (.reg [o 4 (.mv (.c (.bool false)))])
   (.ret)) (.skip)))
  (.seq (.seq (.reg [o 46 (.faddr 7 (.t 2)), o 47 (.load none (.t 46)), o 48 (.faddr 7 (.t 3)), o 49 (.load none (.t 48)), o 50 (.bin .neq (.t 47) (.t 49))])
  (.cond (.t 50) (.seq (.reg [o 4 (.mv (.c (.bool false)))])
   (.ret)) (.skip)))
  (.seq (.reg [o 4 (.mv (.c (.bool true)))])
  (.ret)))))))))),
  [.tmp 4]⟩
/- loop.example/g03011/laws.markServer -/
def F9 : Fun := ⟨30,
  .seq (.reg [o 2 (.box 8 (.t 0)), o 4 (.mv (.c (.int .i64 0)))])
  (.seq (.reg [o 5 (.faddr 0 (.t 2)), o 6 (.load none (.t 5)), o 7 (.mv (.t 1)), o 8 (.call 40 [(.t 6), (.t 7)]), o 1 (.mv (.t 8))])
  (.seq (.reg [o 9 (.faddr 1 (.t 2)), o 10 (.load none (.t 9)), o 11 (.mv (.t 1)), o 12 (.call 41 [(.t 10), (.t 11)]), o 1 (.mv (.t 12))])
  (.seq (.reg [o 13 (.faddr 2 (.t 2)), o 14 (.load none (.t 13)), o 15 (.mv (.t 1)), o 16 (.call 42 [(.t 14), (.t 15)]), o 1 (.mv (.t 16))])
  (.seq (.reg [o 17 (.faddr 3 (.t 2)), o 18 (.load none (.t 17)), o 19 (.mv (.t 1)), o 20 (.call 43 [(.t 18), (.t 19)]), o 1 (.mv (.t 20))])
  (.seq (.reg [o 21 (.faddr 4 (.t 2)), o 22 (.load none (.t 21)), o 23 (.mv (.t 1)), o 24 (.call 44 [(.t 22), (.t 23)]), o 1 (.mv (.t 24))])
  (.seq (.reg [o 25 (.faddr 5 (.t 2)), o 26 (.load none (.t 25)), o 27 (.mv (.t 1)), o 28 (.call 45 [(.t 26), (.t 27)]), o 1 (.mv (.t 28))])
  (.seq (.reg [o 29 (.mv (.t 1)), o 4 (.mv (.t 29))])
  (.ret)))))))),
  [.tmp 4]⟩
/- loop.example/g03011/laws.heldServer -/
def F10 : Fun := ⟨42,
  .seq (.reg [o 2 (.box 8 (.t 0)), o 4 (.mv (.c (.int .i64 0)))])
  (.seq (.reg [o 5 (.faddr 0 (.t 2)), o 6 (.load none (.t 5)), o 7 (.mv (.t 1)), o 8 (.call 46 [(.t 6), (.t 7)]), o 1 (.mv (.t 8))])
  (.seq (.seq (.reg [o 9 (.mv (.t 1)), o 10 (.bin .lss (.t 9) (.c (.int .i64 0)))])
  (.cond (.t 10) (.seq (.reg [o 4 (.mv (.c (.int .i64 (-1))))])
   (.ret)) (.skip)))
  (.seq (.reg [o 11 (.faddr 1 (.t 2)), o 12 (.load none (.t 11)), o 13 (.mv (.t 1)), o 14 (.call 47 [(.t 12), (.t 13)]), o 1 (.mv (.t 14))])
  (.seq (.seq (.reg [o 15 (.mv (.t 1)), o 16 (.bin .lss (.t 15) (.c (.int .i64 0)))])
  (.cond (.t 16) (.seq (.reg [o 4 (.mv (.c (.int .i64 (-1))))])
   (.ret)) (.skip)))
  (.seq (.reg [o 17 (.faddr 2 (.t 2)), o 18 (.load none (.t 17)), o 19 (.mv (.t 1)), o 20 (.call 48 [(.t 18), (.t 19)]), o 1 (.mv (.t 20))])
  (.seq (.seq (.reg [o 21 (.mv (.t 1)), o 22 (.bin .lss (.t 21) (.c (.int .i64 0)))])
  (.cond (.t 22) (.seq (.reg [o 4 (.mv (.c (.int .i64 (-1))))])
   (.ret)) (.skip)))
  (.seq (.reg [o 23 (.faddr 3 (.t 2)), o 24 (.load none (.t 23)), o 25 (.mv (.t 1)), o 26 (.call 49 [(.t 24), (.t 25)]), o 1 (.mv (.t 26))])
  (.seq (.seq (.reg [o 27 (.mv (.t 1)), o 28 (.bin .lss (.t 27) (.c (.int .i64 0)))])
  (.cond (.t 28) (.seq (.reg [o 4 (.mv (.c (.int .i64 (-1))))])
   (.ret)) (.skip)))
  (.seq (.reg [o 29 (.faddr 4 (.t 2)), o 30 (.load none (.t 29)), o 31 (.mv (.t 1)), o 32 (.call 50 [(.t 30), (.t 31)]), o 1 (.mv (.t 32))])
  (.seq (.seq (.reg [o 33 (.mv (.t 1)), o 34 (.bin .lss (.t 33) (.c (.int .i64 0)))])
  (.cond (.t 34) (.seq (.reg [o 4 (.mv (.c (.int .i64 (-1))))])
   (.ret)) (.skip)))
  (.seq (.reg [o 35 (.faddr 5 (.t 2)), o 36 (.load none (.t 35)), o 37 (.mv (.t 1)), o 38 (.call 51 [(.t 36), (.t 37)]), o 1 (.mv (.t 38))])
  (.seq (.seq (.reg [o 39 (.mv (.t 1)), o 40 (.bin .lss (.t 39) (.c (.int .i64 0)))])
  (.cond (.t 40) (.seq (.reg [o 4 (.mv (.c (.int .i64 (-1))))])
   (.ret)) (.skip)))
  (.seq (.reg [o 41 (.mv (.t 1)), o 4 (.mv (.t 41))])
  (.ret)))))))))))))),
  [.tmp 4]⟩
/- loop.example/g03011/laws.szFileS -/
def F11 : Fun := ⟨27,
  .seq (.reg [o 4 (.mv (.c (.int .i64 0)))])
  (.seq (.reg [o 6 (.mv (.t 1)), o 7 (.mv (.t 0)), o 8 (.lenL (.t 7)), o 9 (.bin .sub (.t 6) (.t 8)), o 1 (.mv (.t 9))])
  (.seq (.seq (.reg [o 10 (.mv (.t 1)), o 11 (.bin .lss (.t 10) (.c (.int .i64 0)))])
  (.cond (.t 11) (.seq (.reg [o 4 (.mv (.c (.int .i64 (-1))))])
   (.ret)) (.skip)))
  (.seq (.seq (.reg [o 5 (.mv (.c (.int .i64 0)))])
  (.block 0 (.loop (.seq (.seq (.reg [o 12 (.mv (.t 5)), o 13 (.mv (.t 0)), o 14 (.lenL (.t 13)), o 15 (.bin .lss (.t 12) (.t 14))])
    (.cond (.t 15) (.skip) (.exit 0)))
    (.seq (.block 1 (.seq (.reg [o 18 (.mv (.t 0)), o 19 (.mv (.t 5)), o 20 (.iaddr 3 (.t 18) (.t 19)), o 21 (.load (some 3) (.t 20)), o 22 (.mv (.t 1)), o 23 (.call 52 [(.t 21), (.t 22)]), o 1 (.mv (.t 23))])
     (.seq (.reg [o 24 (.mv (.t 1)), o 25 (.bin .lss (.t 24) (.c (.int .i64 0)))])
     (.cond (.t 25) (.seq (.reg [o 4 (.mv (.c (.int .i64 (-1))))])
      (.ret)) (.skip)))))
    (.reg [o 16 (.mv (.t 5)), o 17 (.bin .add (.t 16) (.c (.int .i64 1))), o 5 (.mv (.t 17))]))))))
  (.seq (.reg [o 26 (.mv (.t 1)), o 4 (.mv (.t 26))])
  (.ret))))),
  [.tmp 4]⟩
/- loop.example/g03011/laws.szLineS -/
def F12 : Fun := ⟨27,
  .seq (.reg [o 4 (.mv (.c (.int .i64 0)))])
  (.seq (.reg [o 6 (.mv (.t 1)), o 7 (.mv (.t 0)), o 8 (.lenL (.t 7)), o 9 (.bin .sub (.t 6) (.t 8)), o 1 (.mv (.t 9))])
  (.seq (.seq (.reg [o 10 (.mv (.t 1)), o 11 (.bin .lss (.t 10) (.c (.int .i64 0)))])
  (.cond (.t 11) (.seq (.reg [o 4 (.mv (.c (.int .i64 (-1))))])
   (.ret)) (.skip)))
  (.seq (.seq (.reg [o 5 (.mv (.c (.int .i64 0)))])
  (.block 0 (.loop (.seq (.seq (.reg [o 12 (.mv (.t 5)), o 13 (.mv (.t 0)), o 14 (.lenL (.t 13)), o 15 (.bin .lss (.t 12) (.t 14))])
    (.cond (.t 15) (.skip) (.exit 0)))
    (.seq (.block 1 (.seq (.reg [o 18 (.mv (.t 0)), o 19 (.mv (.t 5)), o 20 (.iaddr 4 (.t 18) (.t 19)), o 21 (.load (some 4) (.t 20)), o 22 (.mv (.t 1)), o 23 (.call 53 [(.t 21), (.t 22)]), o 1 (.mv (.t 23))])
     (.seq (.reg [o 24 (.mv (.t 1)), o 25 (.bin .lss (.t 24) (.c (.int .i64 0)))])
     (.cond (.t 25) (.seq (.reg [o 4 (.mv (.c (.int .i64 (-1))))])
      (.ret)) (.skip)))))
    (.reg [o 16 (.mv (.t 5)), o 17 (.bin .add (.t 16) (.c (.int .i64 1))), o 5 (.mv (.t 17))]))))))
  (.seq (.reg [o 26 (.mv (.t 1)), o 4 (.mv (.t 26))])
  (.ret))))),
  [.tmp 4]⟩
/- loop.example/g03011/laws.szSessionS -/
def F13 : Fun := ⟨27,
  .seq (.reg [o 4 (.mv (.c (.int .i64 0)))])
  (.seq (.reg [o 6 (.mv (.t 1)), o 7 (.mv (.t 0)), o 8 (.lenL (.t 7)), o 9 (.bin .sub (.t 6) (.t 8)), o 1 (.mv (.t 9))])
  (.seq (.seq (.reg [o 10 (.mv (.t 1)), o 11 (.bin .lss (.t 10) (.c (.int .i64 0)))])
  (.cond (.t 11) (.seq (.reg [o 4 (.mv (.c (.int .i64 (-1))))])
   (.ret)) (.skip)))
  (.seq (.seq (.reg [o 5 (.mv (.c (.int .i64 0)))])
  (.block 0 (.loop (.seq (.seq (.reg [o 12 (.mv (.t 5)), o 13 (.mv (.t 0)), o 14 (.lenL (.t 13)), o 15 (.bin .lss (.t 12) (.t 14))])
    (.cond (.t 15) (.skip) (.exit 0)))
    (.seq (.block 1 (.seq (.reg [o 18 (.mv (.t 0)), o 19 (.mv (.t 5)), o 20 (.iaddr 4 (.t 18) (.t 19)), o 21 (.load (some 4) (.t 20)), o 22 (.mv (.t 1)), o 23 (.call 54 [(.t 21), (.t 22)]), o 1 (.mv (.t 23))])
     (.seq (.reg [o 24 (.mv (.t 1)), o 25 (.bin .lss (.t 24) (.c (.int .i64 0)))])
     (.cond (.t 25) (.seq (.reg [o 4 (.mv (.c (.int .i64 (-1))))])
      (.ret)) (.skip)))))
    (.reg [o 16 (.mv (.t 5)), o 17 (.bin .add (.t 16) (.c (.int .i64 1))), o 5 (.mv (.t 17))]))))))
  (.seq (.reg [o 26 (.mv (.t 1)), o 4 (.mv (.t 26))])
  (.ret))))),
  [.tmp 4]⟩
/- loop.example/g03011/laws.szJobS -/
def F14 : Fun := ⟨27,
  .seq (.reg [o 4 (.mv (.c (.int .i64 0)))])
  (.seq (.reg [o 6 (.mv (.t 1)), o 7 (.mv (.t 0)), o 8 (.lenL (.t 7)), o 9 (.bin .sub (.t 6) (.t 8)), o 1 (.mv (.t 9))])
  (.seq (.seq (.reg [o 10 (.mv (.t 1)), o 11 (.bin .lss (.t 10) (.c (.int .i64 0)))])
  (.cond (.t 11) (.seq (.reg [o 4 (.mv (.c (.int .i64 (-1))))])
   (.ret)) (.skip)))
  (.seq (.seq (.reg [o 5 (.mv (.c (.int .i64 0)))])
  (.block 0 (.loop (.seq (.seq (.reg [o 12 (.mv (.t 5)), o 13 (.mv (.t 0)), o 14 (.lenL (.t 13)), o 15 (.bin .lss (.t 12) (.t 14))])
    (.cond (.t 15) (.skip) (.exit 0)))
    (.seq (.block 1 (.seq (.reg [o 18 (.mv (.t 0)), o 19 (.mv (.t 5)), o 20 (.iaddr 5 (.t 18) (.t 19)), o 21 (.load (some 5) (.t 20)), o 22 (.mv (.t 1)), o 23 (.call 55 [(.t 21), (.t 22)]), o 1 (.mv (.t 23))])
     (.seq (.reg [o 24 (.mv (.t 1)), o 25 (.bin .lss (.t 24) (.c (.int .i64 0)))])
     (.cond (.t 25) (.seq (.reg [o 4 (.mv (.c (.int .i64 (-1))))])
      (.ret)) (.skip)))))
    (.reg [o 16 (.mv (.t 5)), o 17 (.bin .add (.t 16) (.c (.int .i64 1))), o 5 (.mv (.t 17))]))))))
  (.seq (.reg [o 26 (.mv (.t 1)), o 4 (.mv (.t 26))])
  (.ret))))),
  [.tmp 4]⟩
/- loop.example/g03011/laws.szWorkerS -/
def F15 : Fun := ⟨27,
  .seq (.reg [o 4 (.mv (.c (.int .i64 0)))])
  (.seq (.reg [o 6 (.mv (.t 1)), o 7 (.mv (.t 0)), o 8 (.lenL (.t 7)), o 9 (.bin .sub (.t 6) (.t 8)), o 1 (.mv (.t 9))])
  (.seq (.seq (.reg [o 10 (.mv (.t 1)), o 11 (.bin .lss (.t 10) (.c (.int .i64 0)))])
  (.cond (.t 11) (.seq (.reg [o 4 (.mv (.c (.int .i64 (-1))))])
   (.ret)) (.skip)))
  (.seq (.seq (.reg [o 5 (.mv (.c (.int .i64 0)))])
  (.block 0 (.loop (.seq (.seq (.reg [o 12 (.mv (.t 5)), o 13 (.mv (.t 0)), o 14 (.lenL (.t 13)), o 15 (.bin .lss (.t 12) (.t 14))])
    (.cond (.t 15) (.skip) (.exit 0)))
    (.seq (.block 1 (.seq (.reg [o 18 (.mv (.t 0)), o 19 (.mv (.t 5)), o 20 (.iaddr 9 (.t 18) (.t 19)), o 21 (.load (some 9) (.t 20)), o 22 (.mv (.t 1)), o 23 (.call 56 [(.t 21), (.t 22)]), o 1 (.mv (.t 23))])
     (.seq (.reg [o 24 (.mv (.t 1)), o 25 (.bin .lss (.t 24) (.c (.int .i64 0)))])
     (.cond (.t 25) (.seq (.reg [o 4 (.mv (.c (.int .i64 (-1))))])
      (.ret)) (.skip)))))
    (.reg [o 16 (.mv (.t 5)), o 17 (.bin .add (.t 16) (.c (.int .i64 1))), o 5 (.mv (.t 17))]))))))
  (.seq (.reg [o 26 (.mv (.t 1)), o 4 (.mv (.t 26))])
  (.ret))))),
  [.tmp 4]⟩
/- loop.example/g03011/laws.szAnswerS -/
def F16 : Fun := ⟨27,
  .seq (.reg [o 4 (.mv (.c (.int .i64 0)))])
  (.seq (.reg [o 6 (.mv (.t 1)), o 7 (.mv (.t 0)), o 8 (.lenL (.t 7)), o 9 (.bin .sub (.t 6) (.t 8)), o 1 (.mv (.t 9))])
  (.seq (.seq (.reg [o 10 (.mv (.t 1)), o 11 (.bin .lss (.t 10) (.c (.int .i64 0)))])
  (.cond (.t 11) (.seq (.reg [o 4 (.mv (.c (.int .i64 (-1))))])
   (.ret)) (.skip)))
  (.seq (.seq (.reg [o 5 (.mv (.c (.int .i64 0)))])
  (.block 0 (.loop (.seq (.seq (.reg [o 12 (.mv (.t 5)), o 13 (.mv (.t 0)), o 14 (.lenL (.t 13)), o 15 (.bin .lss (.t 12) (.t 14))])
    (.cond (.t 15) (.skip) (.exit 0)))
    (.seq (.block 1 (.seq (.reg [o 18 (.mv (.t 0)), o 19 (.mv (.t 5)), o 20 (.iaddr 11 (.t 18) (.t 19)), o 21 (.load (some 11) (.t 20)), o 22 (.mv (.t 1)), o 23 (.call 57 [(.t 21), (.t 22)]), o 1 (.mv (.t 23))])
     (.seq (.reg [o 24 (.mv (.t 1)), o 25 (.bin .lss (.t 24) (.c (.int .i64 0)))])
     (.cond (.t 25) (.seq (.reg [o 4 (.mv (.c (.int .i64 (-1))))])
      (.ret)) (.skip)))))
    (.reg [o 16 (.mv (.t 5)), o 17 (.bin .add (.t 16) (.c (.int .i64 1))), o 5 (.mv (.t 17))]))))))
  (.seq (.reg [o 26 (.mv (.t 1)), o 4 (.mv (.t 26))])
  (.ret))))),
  [.tmp 4]⟩
/- loop.example/g03011/spec.l39Copy -/
def F17 : Fun := ⟨80,
  .seq (.reg [o 1 (.box 8 (.t 0)), o 2 (.new 8 [.nsl, .nsl, .nsl, .nsl, .nsl, .nsl, (.int .i64 0), (.int .i64 0)])])
  (.seq (.reg [o 7 (.load (some 8) (.t 1)), o 3 (.new 8 [.nsl, .nsl, .nsl, .nsl, .nsl, .nsl, (.int .i64 0), (.int .i64 0)]), st (.store 8 (.t 3) (.t 7))])
  (.seq (.reg [o 8 (.bslice 3 [(.str []), (.str []), (.int .i64 0)] 0 []), o 9 (.faddr 0 (.t 1)), o 10 (.load none (.t 9)), o 11 (.append 3 40 (.t 8) (.t 10)), o 12 (.faddr 0 (.t 3)), st (.store 1 (.t 12) (.t 11))])
  (.seq (.reg [o 13 (.faddr 1 (.t 1)), o 14 (.load none (.t 13)), o 15 (.call 58 [(.t 14)]), o 16 (.faddr 1 (.t 3)), st (.store 1 (.t 16) (.t 15))])
  (.seq (.reg [o 17 (.bslice 4 [(.str []), (.str []), (.int .i64 0), (.int .i64 0)] 0 []), o 18 (.faddr 2 (.t 1)), o 19 (.load none (.t 18)), o 20 (.append 4 48 (.t 17) (.t 19)), o 21 (.faddr 2 (.t 3)), st (.store 1 (.t 21) (.t 20))])
  (.seq (.reg [o 22 (.faddr 3 (.t 3)), st (.store 1 (.t 22) (.c .nsl))])
  (.seq (.seq (.reg [o 4 (.mv (.c (.int .i64 0)))])
  (.block 0 (.loop (.seq (.seq (.reg [o 23 (.mv (.t 4)), o 24 (.faddr 3 (.t 1)), o 25 (.load none (.t 24)), o 26 (.lenL (.t 25)), o 27 (.bin .lss (.t 23) (.t 26))])
    (.cond (.t 27) (.skip) (.exit 0)))
    (.seq (.block 1 (.reg [o 30 (.faddr 3 (.t 3)), o 31 (.load none (.t 30)), o 32 (.faddr 3 (.t 1)), o 33 (.load none (.t 32)), o 34 (.mv (.t 4)), o 35 (.iaddr 5 (.t 33) (.t 34)), o 36 (.load (some 5) (.t 35)), o 37 (.call 59 [(.t 36)]), st (.chk none (.t 30) (.t 31)), o 38 (.bslice 5 [(.int .i64 0), (.str []), .nsl, .nsl, (.str [])] 1 [(0, (.t 37))]), st (.chk none (.t 30) (.t 31)), o 39 (.append 5 88 (.t 31) (.t 38)), o 40 (.faddr 3 (.t 3)), st (.store 1 (.t 40) (.t 39))]))
    (.reg [o 28 (.mv (.t 4)), o 29 (.bin .add (.t 28) (.c (.int .i64 1))), o 4 (.mv (.t 29))]))))))
  (.seq (.reg [o 41 (.faddr 4 (.t 3)), st (.store 1 (.t 41) (.c .nsl))])
  (.seq (.seq (.reg [o 5 (.mv (.c (.int .i64 0)))])
  (.block 2 (.loop (.seq (.seq (.reg [o 42 (.mv (.t 5)), o 43 (.faddr 4 (.t 1)), o 44 (.load none (.t 43)), o 45 (.lenL (.t 44)), o 46 (.bin .lss (.t 42) (.t 45))])
    (.cond (.t 46) (.skip) (.exit 2)))
    (.seq (.block 3 (.reg [o 49 (.faddr 4 (.t 3)), o 50 (.load none (.t 49)), o 51 (.faddr 4 (.t 1)), o 52 (.load none (.t 51)), o 53 (.mv (.t 5)), o 54 (.iaddr 9 (.t 52) (.t 53)), o 55 (.load (some 9) (.t 54)), o 56 (.call 60 [(.t 55)]), st (.chk none (.t 49) (.t 50)), o 57 (.bslice 9 [(.int .i64 0), (.int .i64 0), (.str []), .nsl, .nsl, (.str []), (.str []), .nsl, (.int .i64 0)] 1 [(0, (.t 56))]), st (.chk none (.t 49) (.t 50)), o 58 (.append 9 144 (.t 50) (.t 57)), o 59 (.faddr 4 (.t 3)), st (.store 1 (.t 59) (.t 58))]))
    (.reg [o 47 (.mv (.t 5)), o 48 (.bin .add (.t 47) (.c (.int .i64 1))), o 5 (.mv (.t 48))]))))))
  (.seq (.reg [o 60 (.faddr 5 (.t 3)), st (.store 1 (.t 60) (.c .nsl))])
  (.seq (.seq (.reg [o 6 (.mv (.c (.int .i64 0)))])
  (.block 4 (.loop (.seq (.seq (.reg [o 61 (.mv (.t 6)), o 62 (.faddr 5 (.t 1)), o 63 (.load none (.t 62)), o 64 (.lenL (.t 63)), o 65 (.bin .lss (.t 61) (.t 64))])
    (.cond (.t 65) (.skip) (.exit 4)))
    (.seq (.block 5 (.reg [o 68 (.faddr 5 (.t 3)), o 69 (.load none (.t 68)), o 70 (.faddr 5 (.t 1)), o 71 (.load none (.t 70)), o 72 (.mv (.t 6)), o 73 (.iaddr 11 (.t 71) (.t 72)), o 74 (.load (some 11) (.t 73)), o 75 (.call 61 [(.t 74)]), st (.chk none (.t 68) (.t 69)), o 76 (.bslice 11 [(.int .i64 0), (.str []), .nsl, (.str []), .nsl, .nsl, (.str []), (.int .i64 0), .nsl, (.str []), (.str [])] 1 [(0, (.t 75))]), st (.chk none (.t 68) (.t 69)), o 77 (.append 11 192 (.t 69) (.t 76)), o 78 (.faddr 5 (.t 3)), st (.store 1 (.t 78) (.t 77))]))
    (.reg [o 66 (.mv (.t 6)), o 67 (.bin .add (.t 66) (.c (.int .i64 1))), o 6 (.mv (.t 67))]))))))
  (.seq (.reg [o 79 (.load (some 8) (.t 3)), st (.store 8 (.t 2) (.t 79))])
  (.ret)))))))))))),
  [.cell 2 (some 8)]⟩
/- loop.example/g03011/spec.l1In -/
def F18 : Fun := ⟨15,
  .seq (.reg [o 6 (.mv (.c (.bool false)))])
  (.seq (.reg [o 7 (.mv (.t 0)), o 8 (.mv (.t 1)), o 9 (.bin .geq (.t 7) (.t 8)), o 10 (.mv (.t 9)), og 11 (.mv (.t 0)) 10 true, og 12 (.mv (.t 2)) 10 true, og 13 (.bin .leq (.t 11) (.t 12)) 10 true, o 14 (.pick (.t 10) (.t 13) (.c (.bool false))), o 6 (.mv (.t 14))])
  (.ret)),
  [.tmp 6]⟩
/- loop.example/g03011/spec.DropHolds -/
def F19 : Fun := ⟨28,
  .seq (.reg [o 4 (.mv (.c .nsl))])
  (.seq (.reg [o 7 (.bslice 4 [(.str []), (.str []), (.int .i64 0), (.int .i64 0)] 0 []), o 8 (.mv (.t 0)), o 9 (.append 4 48 (.t 7) (.t 8)), o 5 (.mv (.t 9))])
  (.seq (.seq (.reg [o 6 (.mv (.c (.int .i64 0)))])
  (.block 0 (.loop (.seq (.seq (.reg [o 10 (.mv (.t 6)), o 11 (.mv (.t 5)), o 12 (.lenL (.t 11)), o 13 (.bin .lss (.t 10) (.t 12))])
    (.cond (.t 13) (.skip) (.exit 0)))
    (.seq (.block 1 (.seq (.reg [o 16 (.mv (.t 5)), o 17 (.mv (.t 6)), o 18 (.iaddr 4 (.t 16) (.t 17)), o 19 (.faddr 2 (.t 18)), o 20 (.load none (.t 19)), o 21 (.mv (.t 1)), o 22 (.bin .eql (.t 20) (.t 21))])
     (.cond (.t 22) (.reg [o 23 (.mv (.t 5)), o 24 (.mv (.t 6)), o 25 (.iaddr 4 (.t 23) (.t 24)), o 26 (.faddr 2 (.t 25)), st (.store 1 (.t 26) (.c (.int .i64 0)))]) (.skip))))
    (.reg [o 14 (.mv (.t 6)), o 15 (.bin .add (.t 14) (.c (.int .i64 1))), o 6 (.mv (.t 15))]))))))
  (.seq (.reg [o 27 (.mv (.t 5)), o 4 (.mv (.t 27))])
  (.ret)))),
  [.tmp 4]⟩
/- loop.example/g03011/spec.FindFile -/
def F20 : Fun := ⟨30,
  .seq (.reg [o 4 (.mv (.c (.int .i64 0)))])
  (.seq (.reg [o 9 (.mv (.t 1)), o 10 (.call 62 [(.t 9)]), o 8 (.mv (.t 10)), o 11 (.extract (.t 8) 0), o 12 (.extract (.t 8) 1), o 5 (.mv (.t 11)), o 6 (.mv (.t 12))])
  (.seq (.seq (.reg [o 7 (.mv (.c (.int .i64 0)))])
  (.block 0 (.loop (.seq (.seq (.reg [o 13 (.mv (.t 6)), o 14 (.mv (.t 13)), og 15 (.mv (.t 7)) 14 true, og 16 (.mv (.t 0)) 14 true, og 17 (.lenL (.t 16)) 14 true, og 18 (.bin .lss (.t 15) (.t 17)) 14 true, o 19 (.pick (.t 14) (.t 18) (.c (.bool false)))])
    (.cond (.t 19) (.skip) (.exit 0)))
    (.seq (.block 1 (.seq (.reg [o 22 (.mv (.t 0)), o 23 (.mv (.t 7)), o 24 (.iaddr 3 (.t 22) (.t 23)), o 25 (.faddr 0 (.t 24)), o 26 (.load none (.t 25)), o 27 (.mv (.t 5)), o 28 (.bin .eql (.t 26) (.t 27))])
     (.cond (.t 28) (.seq (.reg [o 29 (.mv (.t 7)), o 4 (.mv (.t 29))])
      (.ret)) (.skip))))
    (.reg [o 20 (.mv (.t 7)), o 21 (.bin .add (.t 20) (.c (.int .i64 1))), o 7 (.mv (.t 21))]))))))
  (.seq (.reg [o 4 (.mv (.c (.int .i64 (-1))))])
  (.ret)))),
  [.tmp 4]⟩
/- loop.example/g03011/spec.SiteStamp -/
def F21 : Fun := ⟨23,
  .seq (.reg [o 2 (.mv (.c (.int .i64 0)))])
  (.seq (.reg [o 3 (.mv (.c (.int .i64 0)))])
  (.seq (.seq (.reg [o 4 (.mv (.c (.int .i64 0)))])
  (.block 0 (.loop (.seq (.seq (.reg [o 5 (.mv (.t 4)), o 6 (.mv (.t 0)), o 7 (.lenL (.t 6)), o 8 (.bin .lss (.t 5) (.t 7)), o 9 (.mv (.t 8)), og 10 (.mv (.t 0)) 9 true, og 11 (.call 63 [(.t 10)]) 9 true, o 12 (.pick (.t 9) (.t 11) (.c (.bool false)))])
    (.cond (.t 12) (.skip) (.exit 0)))
    (.seq (.block 1 (.reg [o 15 (.mv (.t 3)), o 16 (.mv (.t 0)), o 17 (.mv (.t 4)), o 18 (.iaddr 3 (.t 16) (.t 17)), o 19 (.faddr 2 (.t 18)), o 20 (.load none (.t 19)), o 21 (.bin .add (.t 15) (.t 20)), o 3 (.mv (.t 21))]))
    (.reg [o 13 (.mv (.t 4)), o 14 (.bin .add (.t 13) (.c (.int .i64 1))), o 4 (.mv (.t 14))]))))))
  (.seq (.reg [o 22 (.mv (.t 3)), o 2 (.mv (.t 22))])
  (.ret)))),
  [.tmp 2]⟩
/- loop.example/g03011/laws.toFileS -/
def F22 : Fun := ⟨23,
  .seq (.reg [o 2 (.mv (.c .nsl))])
  (.seq (.reg [o 5 (.mv (.t 0)), o 6 (.lenL (.t 5)), o 7 (.mkslice 3 [(.str []), (.str []), (.int .i64 0)] 40 (.t 6) (.t 6)), o 3 (.mv (.t 7))])
  (.seq (.seq (.reg [o 4 (.mv (.c (.int .i64 0)))])
  (.block 0 (.loop (.seq (.seq (.reg [o 8 (.mv (.t 4)), o 9 (.mv (.t 0)), o 10 (.lenL (.t 9)), o 11 (.bin .lss (.t 8) (.t 10))])
    (.cond (.t 11) (.skip) (.exit 0)))
    (.seq (.block 1 (.reg [o 14 (.mv (.t 3)), o 15 (.mv (.t 4)), o 16 (.mv (.t 0)), o 17 (.mv (.t 4)), o 18 (.iaddr 3 (.t 16) (.t 17)), o 19 (.load (some 3) (.t 18)), o 20 (.call 64 [(.t 19)]), o 21 (.iaddr 3 (.t 14) (.t 15)), st (.store 3 (.t 21) (.t 20))]))
    (.reg [o 12 (.mv (.t 4)), o 13 (.bin .add (.t 12) (.c (.int .i64 1))), o 4 (.mv (.t 13))]))))))
  (.seq (.reg [o 22 (.mv (.t 3)), o 2 (.mv (.t 22))])
  (.ret)))),
  [.tmp 2]⟩
/- loop.example/g03011/laws.toLineS -/
def F23 : Fun := ⟨23,
  .seq (.reg [o 2 (.mv (.c .nsl))])
  (.seq (.reg [o 5 (.mv (.t 0)), o 6 (.lenL (.t 5)), o 7 (.mkslice 4 [(.int .i64 0), (.int .i64 0), (.int .i64 0), .nsl] 48 (.t 6) (.t 6)), o 3 (.mv (.t 7))])
  (.seq (.seq (.reg [o 4 (.mv (.c (.int .i64 0)))])
  (.block 0 (.loop (.seq (.seq (.reg [o 8 (.mv (.t 4)), o 9 (.mv (.t 0)), o 10 (.lenL (.t 9)), o 11 (.bin .lss (.t 8) (.t 10))])
    (.cond (.t 11) (.skip) (.exit 0)))
    (.seq (.block 1 (.reg [o 14 (.mv (.t 3)), o 15 (.mv (.t 4)), o 16 (.mv (.t 0)), o 17 (.mv (.t 4)), o 18 (.iaddr 4 (.t 16) (.t 17)), o 19 (.load (some 4) (.t 18)), o 20 (.call 65 [(.t 19)]), o 21 (.iaddr 4 (.t 14) (.t 15)), st (.store 4 (.t 21) (.t 20))]))
    (.reg [o 12 (.mv (.t 4)), o 13 (.bin .add (.t 12) (.c (.int .i64 1))), o 4 (.mv (.t 13))]))))))
  (.seq (.reg [o 22 (.mv (.t 3)), o 2 (.mv (.t 22))])
  (.ret)))),
  [.tmp 2]⟩
/- loop.example/g03011/laws.toSessionS -/
def F24 : Fun := ⟨23,
  .seq (.reg [o 2 (.mv (.c .nsl))])
  (.seq (.reg [o 5 (.mv (.t 0)), o 6 (.lenL (.t 5)), o 7 (.mkslice 4 [(.str []), (.str []), (.int .i64 0), (.int .i64 0)] 48 (.t 6) (.t 6)), o 3 (.mv (.t 7))])
  (.seq (.seq (.reg [o 4 (.mv (.c (.int .i64 0)))])
  (.block 0 (.loop (.seq (.seq (.reg [o 8 (.mv (.t 4)), o 9 (.mv (.t 0)), o 10 (.lenL (.t 9)), o 11 (.bin .lss (.t 8) (.t 10))])
    (.cond (.t 11) (.skip) (.exit 0)))
    (.seq (.block 1 (.reg [o 14 (.mv (.t 3)), o 15 (.mv (.t 4)), o 16 (.mv (.t 0)), o 17 (.mv (.t 4)), o 18 (.iaddr 4 (.t 16) (.t 17)), o 19 (.load (some 4) (.t 18)), o 20 (.call 66 [(.t 19)]), o 21 (.iaddr 4 (.t 14) (.t 15)), st (.store 4 (.t 21) (.t 20))]))
    (.reg [o 12 (.mv (.t 4)), o 13 (.bin .add (.t 12) (.c (.int .i64 1))), o 4 (.mv (.t 13))]))))))
  (.seq (.reg [o 22 (.mv (.t 3)), o 2 (.mv (.t 22))])
  (.ret)))),
  [.tmp 2]⟩
/- loop.example/g03011/laws.toJobS -/
def F25 : Fun := ⟨23,
  .seq (.reg [o 2 (.mv (.c .nsl))])
  (.seq (.reg [o 5 (.mv (.t 0)), o 6 (.lenL (.t 5)), o 7 (.mkslice 5 [(.int .i64 0), (.str []), .nsl, .nsl, (.str [])] 88 (.t 6) (.t 6)), o 3 (.mv (.t 7))])
  (.seq (.seq (.reg [o 4 (.mv (.c (.int .i64 0)))])
  (.block 0 (.loop (.seq (.seq (.reg [o 8 (.mv (.t 4)), o 9 (.mv (.t 0)), o 10 (.lenL (.t 9)), o 11 (.bin .lss (.t 8) (.t 10))])
    (.cond (.t 11) (.skip) (.exit 0)))
    (.seq (.block 1 (.reg [o 14 (.mv (.t 3)), o 15 (.mv (.t 4)), o 16 (.mv (.t 0)), o 17 (.mv (.t 4)), o 18 (.iaddr 5 (.t 16) (.t 17)), o 19 (.load (some 5) (.t 18)), o 20 (.call 67 [(.t 19)]), o 21 (.iaddr 5 (.t 14) (.t 15)), st (.store 5 (.t 21) (.t 20))]))
    (.reg [o 12 (.mv (.t 4)), o 13 (.bin .add (.t 12) (.c (.int .i64 1))), o 4 (.mv (.t 13))]))))))
  (.seq (.reg [o 22 (.mv (.t 3)), o 2 (.mv (.t 22))])
  (.ret)))),
  [.tmp 2]⟩
/- loop.example/g03011/laws.toWorkerS -/
def F26 : Fun := ⟨23,
  .seq (.reg [o 2 (.mv (.c .nsl))])
  (.seq (.reg [o 5 (.mv (.t 0)), o 6 (.lenL (.t 5)), o 7 (.mkslice 9 [(.int .i64 0), (.int .i64 0), (.str []), .nsl, .nsl, (.str []), (.str []), .nsl, (.int .i64 0)] 144 (.t 6) (.t 6)), o 3 (.mv (.t 7))])
  (.seq (.seq (.reg [o 4 (.mv (.c (.int .i64 0)))])
  (.block 0 (.loop (.seq (.seq (.reg [o 8 (.mv (.t 4)), o 9 (.mv (.t 0)), o 10 (.lenL (.t 9)), o 11 (.bin .lss (.t 8) (.t 10))])
    (.cond (.t 11) (.skip) (.exit 0)))
    (.seq (.block 1 (.reg [o 14 (.mv (.t 3)), o 15 (.mv (.t 4)), o 16 (.mv (.t 0)), o 17 (.mv (.t 4)), o 18 (.iaddr 9 (.t 16) (.t 17)), o 19 (.load (some 9) (.t 18)), o 20 (.call 68 [(.t 19)]), o 21 (.iaddr 9 (.t 14) (.t 15)), st (.store 9 (.t 21) (.t 20))]))
    (.reg [o 12 (.mv (.t 4)), o 13 (.bin .add (.t 12) (.c (.int .i64 1))), o 4 (.mv (.t 13))]))))))
  (.seq (.reg [o 22 (.mv (.t 3)), o 2 (.mv (.t 22))])
  (.ret)))),
  [.tmp 2]⟩
/- loop.example/g03011/laws.toAnswerS -/
def F27 : Fun := ⟨23,
  .seq (.reg [o 2 (.mv (.c .nsl))])
  (.seq (.reg [o 5 (.mv (.t 0)), o 6 (.lenL (.t 5)), o 7 (.mkslice 11 [(.int .i64 0), (.str []), .nsl, (.str []), .nsl, .nsl, (.str []), (.int .i64 0), .nsl, (.str []), (.str [])] 192 (.t 6) (.t 6)), o 3 (.mv (.t 7))])
  (.seq (.seq (.reg [o 4 (.mv (.c (.int .i64 0)))])
  (.block 0 (.loop (.seq (.seq (.reg [o 8 (.mv (.t 4)), o 9 (.mv (.t 0)), o 10 (.lenL (.t 9)), o 11 (.bin .lss (.t 8) (.t 10))])
    (.cond (.t 11) (.skip) (.exit 0)))
    (.seq (.block 1 (.reg [o 14 (.mv (.t 3)), o 15 (.mv (.t 4)), o 16 (.mv (.t 0)), o 17 (.mv (.t 4)), o 18 (.iaddr 11 (.t 16) (.t 17)), o 19 (.load (some 11) (.t 18)), o 20 (.call 69 [(.t 19)]), o 21 (.iaddr 11 (.t 14) (.t 15)), st (.store 11 (.t 21) (.t 20))]))
    (.reg [o 12 (.mv (.t 4)), o 13 (.bin .add (.t 12) (.c (.int .i64 1))), o 4 (.mv (.t 13))]))))))
  (.seq (.reg [o 22 (.mv (.t 3)), o 2 (.mv (.t 22))])
  (.ret)))),
  [.tmp 2]⟩
/- loop.example/g03011/impl.copyServer -/
def F28 : Fun := ⟨92,
  .seq (.reg [o 1 (.box 8 (.t 0)), o 2 (.new 8 [.nsl, .nsl, .nsl, .nsl, .nsl, .nsl, (.int .i64 0), (.int .i64 0)])])
  (.seq (.reg [o 10 (.load (some 8) (.t 1)), o 3 (.new 8 [.nsl, .nsl, .nsl, .nsl, .nsl, .nsl, (.int .i64 0), (.int .i64 0)]), st (.store 8 (.t 3) (.t 10))])
  (.seq (.reg [o 11 (.faddr 0 (.t 1)), o 12 (.load none (.t 11)), o 13 (.call 70 [(.t 12)]), o 14 (.faddr 0 (.t 3)), st (.store 1 (.t 14) (.t 13))])
  (.seq (.reg [o 15 (.faddr 1 (.t 1)), o 16 (.load none (.t 15)), o 17 (.call 71 [(.t 16)]), o 18 (.faddr 1 (.t 3)), st (.store 1 (.t 18) (.t 17))])
  (.seq (.reg [o 19 (.faddr 2 (.t 1)), o 20 (.load none (.t 19)), o 21 (.call 72 [(.t 20)]), o 22 (.faddr 2 (.t 3)), st (.store 1 (.t 22) (.t 21))])
  (.seq (.reg [o 23 (.faddr 3 (.t 3)), st (.store 1 (.t 23) (.c .nsl))])
  (.seq (.seq (.reg [o 24 (.faddr 3 (.t 1)), o 25 (.load none (.t 24)), o 26 (.lenL (.t 25)), o 27 (.mv (.c (.int .i64 0)))])
  (.block 0 (.loop (.seq (.reg [o 28 (.bin .lss (.t 27) (.t 26))])
    (.seq (.cond (.t 28) (.skip) (.exit 0))
    (.seq (.block 1 (.seq (.reg [o 29 (.iaddr 5 (.t 25) (.t 27)), o 30 (.load (some 5) (.t 29)), o 5 (.new 5 [(.int .i64 0), (.str []), .nsl, .nsl, (.str [])]), st (.store 5 (.t 5) (.t 30))])
     (.reg [o 31 (.faddr 3 (.t 3)), o 32 (.load none (.t 31)), o 33 (.load (some 5) (.t 5)), o 34 (.call 73 [(.t 33)]), st (.chk none (.t 31) (.t 32)), o 35 (.bslice 5 [(.int .i64 0), (.str []), .nsl, .nsl, (.str [])] 1 [(0, (.t 34))]), st (.chk none (.t 31) (.t 32)), o 36 (.append 5 88 (.t 32) (.t 35)), o 37 (.faddr 3 (.t 3)), st (.store 1 (.t 37) (.t 36))])))
    (.reg [o 38 (.bin .add (.t 27) (.c (.int .i64 1))), o 27 (.mv (.t 38))])))))))
  (.seq (.reg [o 39 (.faddr 4 (.t 3)), st (.store 1 (.t 39) (.c .nsl))])
  (.seq (.seq (.reg [o 40 (.faddr 4 (.t 1)), o 41 (.load none (.t 40)), o 42 (.lenL (.t 41)), o 43 (.mv (.c (.int .i64 0)))])
  (.block 2 (.loop (.seq (.reg [o 44 (.bin .lss (.t 43) (.t 42))])
    (.seq (.cond (.t 44) (.skip) (.exit 2))
    (.seq (.block 3 (.seq (.reg [o 45 (.iaddr 9 (.t 41) (.t 43)), o 46 (.load (some 9) (.t 45)), o 7 (.new 9 [(.int .i64 0), (.int .i64 0), (.str []), .nsl, .nsl, (.str []), (.str []), .nsl, (.int .i64 0)]), st (.store 9 (.t 7) (.t 46))])
     (.seq (.reg [o 47 (.faddr 1 (.t 7)), o 48 (.load (some 5) (.t 47)), o 49 (.call 73 [(.t 48)]), o 50 (.faddr 1 (.t 7)), st (.store 5 (.t 50) (.t 49))])
     (.seq (.reg [o 51 (.faddr 7 (.t 7)), o 52 (.load none (.t 51)), o 53 (.call 70 [(.t 52)]), o 54 (.faddr 7 (.t 7)), st (.store 1 (.t 54) (.t 53))])
     (.reg [o 55 (.faddr 4 (.t 3)), o 56 (.load none (.t 55)), o 57 (.load (some 9) (.t 7)), o 58 (.bslice 9 [(.int .i64 0), (.int .i64 0), (.str []), .nsl, .nsl, (.str []), (.str []), .nsl, (.int .i64 0)] 1 [(0, (.t 57))]), o 59 (.append 9 144 (.t 56) (.t 58)), o 60 (.faddr 4 (.t 3)), st (.store 1 (.t 60) (.t 59))])))))
    (.reg [o 61 (.bin .add (.t 43) (.c (.int .i64 1))), o 43 (.mv (.t 61))])))))))
  (.seq (.reg [o 62 (.faddr 5 (.t 3)), st (.store 1 (.t 62) (.c .nsl))])
  (.seq (.seq (.reg [o 63 (.faddr 5 (.t 1)), o 64 (.load none (.t 63)), o 65 (.lenL (.t 64)), o 66 (.mv (.c (.int .i64 0)))])
  (.block 4 (.loop (.seq (.reg [o 67 (.bin .lss (.t 66) (.t 65))])
    (.seq (.cond (.t 67) (.skip) (.exit 4))
    (.seq (.block 5 (.seq (.reg [o 68 (.iaddr 11 (.t 64) (.t 66)), o 69 (.load (some 11) (.t 68)), o 9 (.new 11 [(.int .i64 0), (.str []), .nsl, (.str []), .nsl, .nsl, (.str []), (.int .i64 0), .nsl, (.str []), (.str [])]), st (.store 11 (.t 9) (.t 69))])
     (.seq (.reg [o 70 (.faddr 2 (.t 9)), o 71 (.load none (.t 70)), o 72 (.call 70 [(.t 71)]), o 73 (.faddr 2 (.t 9)), st (.store 1 (.t 73) (.t 72))])
     (.seq (.reg [o 74 (.faddr 3 (.t 9)), o 75 (.load (some 3) (.t 74)), o 76 (.call 74 [(.t 75)]), o 77 (.faddr 3 (.t 9)), st (.store 3 (.t 77) (.t 76))])
     (.seq (.reg [o 78 (.faddr 7 (.t 9)), o 79 (.faddr 1 (.t 78)), o 80 (.load none (.t 79)), o 81 (.call 75 [(.t 80)]), o 82 (.faddr 7 (.t 9)), o 83 (.faddr 1 (.t 82)), st (.store 1 (.t 83) (.t 81))])
     (.reg [o 84 (.faddr 5 (.t 3)), o 85 (.load none (.t 84)), o 86 (.load (some 11) (.t 9)), o 87 (.bslice 11 [(.int .i64 0), (.str []), .nsl, (.str []), .nsl, .nsl, (.str []), (.int .i64 0), .nsl, (.str []), (.str [])] 1 [(0, (.t 86))]), o 88 (.append 11 192 (.t 85) (.t 87)), o 89 (.faddr 5 (.t 3)), st (.store 1 (.t 89) (.t 88))]))))))
    (.reg [o 90 (.bin .add (.t 66) (.c (.int .i64 1))), o 66 (.mv (.t 90))])))))))
  (.seq (.reg [o 91 (.load (some 8) (.t 3)), st (.store 8 (.t 2) (.t 91))])
  (.ret)))))))))))),
  [.cell 2 (some 8)]⟩
/- loop.example/g03011/impl.InRange -/
def F29 : Fun := ⟨15,
  .seq (.reg [o 6 (.mv (.c (.bool false)))])
  (.seq (.reg [o 7 (.mv (.t 1)), o 8 (.mv (.t 0)), o 9 (.bin .leq (.t 7) (.t 8)), o 10 (.mv (.t 9)), og 11 (.mv (.t 0)) 10 true, og 12 (.mv (.t 2)) 10 true, og 13 (.bin .leq (.t 11) (.t 12)) 10 true, o 14 (.pick (.t 10) (.t 13) (.c (.bool false))), o 6 (.mv (.t 14))])
  (.ret)),
  [.tmp 6]⟩
/- loop.example/g03011/impl.DropHolds -/
def F31 : Fun := ⟨27,
  .seq (.reg [o 4 (.mv (.c .nsl))])
  (.seq (.reg [o 8 (.mv (.t 0)), o 9 (.call 72 [(.t 8)]), o 5 (.mv (.t 9))])
  (.seq (.seq (.reg [o 10 (.mv (.t 0)), o 11 (.lenL (.t 10)), o 12 (.mv (.c (.int .i64 0)))])
  (.block 0 (.loop (.seq (.reg [o 13 (.bin .lss (.t 12) (.t 11))])
    (.seq (.cond (.t 13) (.skip) (.exit 0))
    (.seq (.block 1 (.seq (.reg [o 14 (.mv (.t 12)), o 15 (.iaddr 4 (.t 10) (.t 12)), o 16 (.load (some 4) (.t 15)), o 7 (.new 4 [(.str []), (.str []), (.int .i64 0), (.int .i64 0)]), o 6 (.mv (.t 14)), st (.store 4 (.t 7) (.t 16))])
     (.seq (.reg [o 17 (.faddr 2 (.t 7)), o 18 (.load none (.t 17)), o 19 (.mv (.t 1)), o 20 (.bin .eql (.t 18) (.t 19))])
     (.cond (.t 20) (.reg [o 21 (.mv (.t 5)), o 22 (.mv (.t 6)), o 23 (.iaddr 4 (.t 21) (.t 22)), o 24 (.faddr 2 (.t 23)), st (.store 1 (.t 24) (.c (.int .i64 0)))]) (.skip)))))
    (.reg [o 25 (.bin .add (.t 12) (.c (.int .i64 1))), o 12 (.mv (.t 25))])))))))
  (.seq (.reg [o 26 (.mv (.t 5)), o 4 (.mv (.t 26))])
  (.ret)))),
  [.tmp 4]⟩
/- loop.example/g03011/impl.FindFile -/
def F32 : Fun := ⟨29,
  .seq (.reg [o 4 (.mv (.c (.int .i64 0)))])
  (.seq (.reg [o 10 (.mv (.t 1)), o 11 (.call 78 [(.t 10)]), o 9 (.mv (.t 11)), o 12 (.extract (.t 9) 0), o 13 (.extract (.t 9) 1), o 5 (.mv (.t 12)), o 6 (.mv (.t 13))])
  (.seq (.seq (.reg [o 14 (.mv (.t 6)), o 15 (.un .not (.t 14))])
  (.cond (.t 15) (.seq (.reg [o 4 (.mv (.c (.int .i64 (-1))))])
   (.ret)) (.skip)))
  (.seq (.seq (.reg [o 16 (.mv (.t 0)), o 17 (.lenL (.t 16)), o 18 (.mv (.c (.int .i64 0)))])
  (.block 0 (.loop (.seq (.reg [o 19 (.bin .lss (.t 18) (.t 17))])
    (.seq (.cond (.t 19) (.skip) (.exit 0))
    (.seq (.block 1 (.seq (.reg [o 20 (.mv (.t 18)), o 21 (.iaddr 3 (.t 16) (.t 18)), o 22 (.load (some 3) (.t 21)), o 8 (.new 3 [(.str []), (.str []), (.int .i64 0)]), o 7 (.mv (.t 20)), st (.store 3 (.t 8) (.t 22))])
     (.seq (.reg [o 23 (.faddr 0 (.t 8)), o 24 (.load none (.t 23)), o 25 (.mv (.t 5)), o 26 (.bin .eql (.t 24) (.t 25))])
     (.cond (.t 26) (.seq (.reg [o 27 (.mv (.t 7)), o 4 (.mv (.t 27))])
      (.ret)) (.skip)))))
    (.reg [o 28 (.bin .add (.t 18) (.c (.int .i64 1))), o 18 (.mv (.t 28))])))))))
  (.seq (.reg [o 4 (.mv (.c (.int .i64 (-1))))])
  (.ret))))),
  [.tmp 4]⟩
/- loop.example/g03011/impl.SiteStamp -/
def F33 : Fun := ⟨21,
  .seq (.reg [o 2 (.mv (.c (.int .i64 0)))])
  (.seq (.seq (.reg [o 6 (.mv (.t 0)), o 7 (.call 79 [(.t 6)]), o 8 (.un .not (.t 7))])
  (.cond (.t 8) (.seq (.reg [o 2 (.mv (.c (.int .i64 0)))])
   (.ret)) (.skip)))
  (.seq (.reg [o 3 (.mv (.c (.int .i64 0)))])
  (.seq (.seq (.reg [o 9 (.mv (.t 0)), o 10 (.lenL (.t 9)), o 11 (.mv (.c (.int .i64 0)))])
  (.block 0 (.loop (.seq (.reg [o 12 (.bin .lss (.t 11) (.t 10))])
    (.seq (.cond (.t 12) (.skip) (.exit 0))
    (.seq (.block 1 (.seq (.reg [o 13 (.iaddr 3 (.t 9) (.t 11)), o 14 (.load (some 3) (.t 13)), o 5 (.new 3 [(.str []), (.str []), (.int .i64 0)]), st (.store 3 (.t 5) (.t 14))])
     (.reg [o 15 (.mv (.t 3)), o 16 (.faddr 2 (.t 5)), o 17 (.load none (.t 16)), o 18 (.bin .add (.t 15) (.t 17)), o 3 (.mv (.t 18))])))
    (.reg [o 19 (.bin .add (.t 11) (.c (.int .i64 1))), o 11 (.mv (.t 19))])))))))
  (.seq (.reg [o 20 (.mv (.t 3)), o 2 (.mv (.t 20))])
  (.ret))))),
  [.tmp 2]⟩
/- loop.example/g03011/laws.eqFileS -/
def F34 : Fun := ⟨27,
  .seq (.reg [o 4 (.mv (.c (.bool false)))])
  (.seq (.seq (.reg [o 6 (.mv (.t 0)), o 7 (.lenL (.t 6)), o 8 (.mv (.t 1)), o 9 (.lenL (.t 8)), o 10 (.bin .neq (.t 7) (.t 9))])
  (.cond (.t 10) (.seq (.reg [o 4 (.mv (.c (.bool false)))])
   (.ret)) (.skip)))
  (.seq (.seq (.reg [o 5 (.mv (.c (.int .i64 0)))])
  (.block 0 (.loop (.seq (.seq (.reg [o 11 (.mv (.t 5)), o 12 (.mv (.t 0)), o 13 (.lenL (.t 12)), o 14 (.bin .lss (.t 11) (.t 13))])
    (.cond (.t 14) (.skip) (.exit 0)))
    (.seq (.block 1 (.seq (.reg [o 17 (.mv (.t 0)), o 18 (.mv (.t 5)), o 19 (.iaddr 3 (.t 17) (.t 18)), o 20 (.load (some 3) (.t 19)), o 21 (.mv (.t 1)), o 22 (.mv (.t 5)), o 23 (.iaddr 3 (.t 21) (.t 22)), o 24 (.load (some 3) (.t 23)), o 25 (.callF 80 [(.t 20), (.t 24)]), o 26 (.un .not (.t 25))])
     (.cond (.t 26) (.seq (.reg [o 4 (.mv (.c (.bool false)))])
      (.ret)) (.skip))))
    (.reg [o 15 (.mv (.t 5)), o 16 (.bin .add (.t 15) (.c (.int .i64 1))), o 5 (.mv (.t 16))]))))))
  (.seq (.reg [o 4 (.mv (.c (.bool true)))])
  (.ret)))),
  [.tmp 4]⟩
/- loop.example/g03011/laws.eqLineS -/
def F35 : Fun := ⟨27,
  .seq (.reg [o 4 (.mv (.c (.bool false)))])
  (.seq (.seq (.reg [o 6 (.mv (.t 0)), o 7 (.lenL (.t 6)), o 8 (.mv (.t 1)), o 9 (.lenL (.t 8)), o 10 (.bin .neq (.t 7) (.t 9))])
  (.cond (.t 10) (.seq (.reg [o 4 (.mv (.c (.bool false)))])
   (.ret)) (.skip)))
  (.seq (.seq (.reg [o 5 (.mv (.c (.int .i64 0)))])
  (.block 0 (.loop (.seq (.seq (.reg [o 11 (.mv (.t 5)), o 12 (.mv (.t 0)), o 13 (.lenL (.t 12)), o 14 (.bin .lss (.t 11) (.t 13))])
    (.cond (.t 14) (.skip) (.exit 0)))
    (.seq (.block 1 (.seq (.reg [o 17 (.mv (.t 0)), o 18 (.mv (.t 5)), o 19 (.iaddr 4 (.t 17) (.t 18)), o 20 (.load (some 4) (.t 19)), o 21 (.mv (.t 1)), o 22 (.mv (.t 5)), o 23 (.iaddr 4 (.t 21) (.t 22)), o 24 (.load (some 4) (.t 23)), o 25 (.callF 81 [(.t 20), (.t 24)]), o 26 (.un .not (.t 25))])
     (.cond (.t 26) (.seq (.reg [o 4 (.mv (.c (.bool false)))])
      (.ret)) (.skip))))
    (.reg [o 15 (.mv (.t 5)), o 16 (.bin .add (.t 15) (.c (.int .i64 1))), o 5 (.mv (.t 16))]))))))
  (.seq (.reg [o 4 (.mv (.c (.bool true)))])
  (.ret)))),
  [.tmp 4]⟩
/- loop.example/g03011/laws.eqSessionS -/
def F36 : Fun := ⟨27,
  .seq (.reg [o 4 (.mv (.c (.bool false)))])
  (.seq (.seq (.reg [o 6 (.mv (.t 0)), o 7 (.lenL (.t 6)), o 8 (.mv (.t 1)), o 9 (.lenL (.t 8)), o 10 (.bin .neq (.t 7) (.t 9))])
  (.cond (.t 10) (.seq (.reg [o 4 (.mv (.c (.bool false)))])
   (.ret)) (.skip)))
  (.seq (.seq (.reg [o 5 (.mv (.c (.int .i64 0)))])
  (.block 0 (.loop (.seq (.seq (.reg [o 11 (.mv (.t 5)), o 12 (.mv (.t 0)), o 13 (.lenL (.t 12)), o 14 (.bin .lss (.t 11) (.t 13))])
    (.cond (.t 14) (.skip) (.exit 0)))
    (.seq (.block 1 (.seq (.reg [o 17 (.mv (.t 0)), o 18 (.mv (.t 5)), o 19 (.iaddr 4 (.t 17) (.t 18)), o 20 (.load (some 4) (.t 19)), o 21 (.mv (.t 1)), o 22 (.mv (.t 5)), o 23 (.iaddr 4 (.t 21) (.t 22)), o 24 (.load (some 4) (.t 23)), o 25 (.callF 82 [(.t 20), (.t 24)]), o 26 (.un .not (.t 25))])
     (.cond (.t 26) (.seq (.reg [o 4 (.mv (.c (.bool false)))])
      (.ret)) (.skip))))
    (.reg [o 15 (.mv (.t 5)), o 16 (.bin .add (.t 15) (.c (.int .i64 1))), o 5 (.mv (.t 16))]))))))
  (.seq (.reg [o 4 (.mv (.c (.bool true)))])
  (.ret)))),
  [.tmp 4]⟩
/- loop.example/g03011/laws.eqJobS -/
def F37 : Fun := ⟨27,
  .seq (.reg [o 4 (.mv (.c (.bool false)))])
  (.seq (.seq (.reg [o 6 (.mv (.t 0)), o 7 (.lenL (.t 6)), o 8 (.mv (.t 1)), o 9 (.lenL (.t 8)), o 10 (.bin .neq (.t 7) (.t 9))])
  (.cond (.t 10) (.seq (.reg [o 4 (.mv (.c (.bool false)))])
   (.ret)) (.skip)))
  (.seq (.seq (.reg [o 5 (.mv (.c (.int .i64 0)))])
  (.block 0 (.loop (.seq (.seq (.reg [o 11 (.mv (.t 5)), o 12 (.mv (.t 0)), o 13 (.lenL (.t 12)), o 14 (.bin .lss (.t 11) (.t 13))])
    (.cond (.t 14) (.skip) (.exit 0)))
    (.seq (.block 1 (.seq (.reg [o 17 (.mv (.t 0)), o 18 (.mv (.t 5)), o 19 (.iaddr 5 (.t 17) (.t 18)), o 20 (.load (some 5) (.t 19)), o 21 (.mv (.t 1)), o 22 (.mv (.t 5)), o 23 (.iaddr 5 (.t 21) (.t 22)), o 24 (.load (some 5) (.t 23)), o 25 (.callF 83 [(.t 20), (.t 24)]), o 26 (.un .not (.t 25))])
     (.cond (.t 26) (.seq (.reg [o 4 (.mv (.c (.bool false)))])
      (.ret)) (.skip))))
    (.reg [o 15 (.mv (.t 5)), o 16 (.bin .add (.t 15) (.c (.int .i64 1))), o 5 (.mv (.t 16))]))))))
  (.seq (.reg [o 4 (.mv (.c (.bool true)))])
  (.ret)))),
  [.tmp 4]⟩
/- loop.example/g03011/laws.eqWorkerS -/
def F38 : Fun := ⟨27,
  .seq (.reg [o 4 (.mv (.c (.bool false)))])
  (.seq (.seq (.reg [o 6 (.mv (.t 0)), o 7 (.lenL (.t 6)), o 8 (.mv (.t 1)), o 9 (.lenL (.t 8)), o 10 (.bin .neq (.t 7) (.t 9))])
  (.cond (.t 10) (.seq (.reg [o 4 (.mv (.c (.bool false)))])
   (.ret)) (.skip)))
  (.seq (.seq (.reg [o 5 (.mv (.c (.int .i64 0)))])
  (.block 0 (.loop (.seq (.seq (.reg [o 11 (.mv (.t 5)), o 12 (.mv (.t 0)), o 13 (.lenL (.t 12)), o 14 (.bin .lss (.t 11) (.t 13))])
    (.cond (.t 14) (.skip) (.exit 0)))
    (.seq (.block 1 (.seq (.reg [o 17 (.mv (.t 0)), o 18 (.mv (.t 5)), o 19 (.iaddr 9 (.t 17) (.t 18)), o 20 (.load (some 9) (.t 19)), o 21 (.mv (.t 1)), o 22 (.mv (.t 5)), o 23 (.iaddr 9 (.t 21) (.t 22)), o 24 (.load (some 9) (.t 23)), o 25 (.callF 84 [(.t 20), (.t 24)]), o 26 (.un .not (.t 25))])
     (.cond (.t 26) (.seq (.reg [o 4 (.mv (.c (.bool false)))])
      (.ret)) (.skip))))
    (.reg [o 15 (.mv (.t 5)), o 16 (.bin .add (.t 15) (.c (.int .i64 1))), o 5 (.mv (.t 16))]))))))
  (.seq (.reg [o 4 (.mv (.c (.bool true)))])
  (.ret)))),
  [.tmp 4]⟩
/- loop.example/g03011/laws.eqAnswerS -/
def F39 : Fun := ⟨27,
  .seq (.reg [o 4 (.mv (.c (.bool false)))])
  (.seq (.seq (.reg [o 6 (.mv (.t 0)), o 7 (.lenL (.t 6)), o 8 (.mv (.t 1)), o 9 (.lenL (.t 8)), o 10 (.bin .neq (.t 7) (.t 9))])
  (.cond (.t 10) (.seq (.reg [o 4 (.mv (.c (.bool false)))])
   (.ret)) (.skip)))
  (.seq (.seq (.reg [o 5 (.mv (.c (.int .i64 0)))])
  (.block 0 (.loop (.seq (.seq (.reg [o 11 (.mv (.t 5)), o 12 (.mv (.t 0)), o 13 (.lenL (.t 12)), o 14 (.bin .lss (.t 11) (.t 13))])
    (.cond (.t 14) (.skip) (.exit 0)))
    (.seq (.block 1 (.seq (.reg [o 17 (.mv (.t 0)), o 18 (.mv (.t 5)), o 19 (.iaddr 11 (.t 17) (.t 18)), o 20 (.load (some 11) (.t 19)), o 21 (.mv (.t 1)), o 22 (.mv (.t 5)), o 23 (.iaddr 11 (.t 21) (.t 22)), o 24 (.load (some 11) (.t 23)), o 25 (.callF 85 [(.t 20), (.t 24)]), o 26 (.un .not (.t 25))])
     (.cond (.t 26) (.seq (.reg [o 4 (.mv (.c (.bool false)))])
      (.ret)) (.skip))))
    (.reg [o 15 (.mv (.t 5)), o 16 (.bin .add (.t 15) (.c (.int .i64 1))), o 5 (.mv (.t 16))]))))))
  (.seq (.reg [o 4 (.mv (.c (.bool true)))])
  (.ret)))),
  [.tmp 4]⟩
/- loop.example/g03011/laws.markFileS -/
def F40 : Fun := ⟨36,
  .seq (.reg [o 4 (.mv (.c (.int .i64 0)))])
  (.seq (.seq (.reg [o 5 (.mv (.c (.int .i64 0)))])
  (.block 0 (.loop (.seq (.seq (.reg [o 6 (.mv (.t 5)), o 7 (.mv (.t 0)), o 8 (.lenL (.t 7)), o 9 (.bin .lss (.t 6) (.t 8))])
    (.cond (.t 9) (.skip) (.exit 0)))
    (.seq (.block 1 (.seq (.reg [o 12 (.mv (.t 0)), o 13 (.mv (.t 5)), o 14 (.mv (.t 1)), o 15 (.call 86 [(.t 14)]), o 16 (.iaddr 3 (.t 12) (.t 13)), o 17 (.faddr 0 (.t 16)), st (.store 1 (.t 17) (.t 15))])
     (.seq (.reg [o 18 (.mv (.t 1)), o 19 (.bin .add (.t 18) (.c (.int .i64 1))), o 1 (.mv (.t 19))])
     (.seq (.reg [o 20 (.mv (.t 0)), o 21 (.mv (.t 5)), o 22 (.mv (.t 1)), o 23 (.call 86 [(.t 22)]), o 24 (.iaddr 3 (.t 20) (.t 21)), o 25 (.faddr 1 (.t 24)), st (.store 1 (.t 25) (.t 23))])
     (.seq (.reg [o 26 (.mv (.t 1)), o 27 (.bin .add (.t 26) (.c (.int .i64 1))), o 1 (.mv (.t 27))])
     (.seq (.reg [o 28 (.mv (.t 0)), o 29 (.mv (.t 5)), o 30 (.mv (.t 1)), o 31 (.iaddr 3 (.t 28) (.t 29)), o 32 (.faddr 2 (.t 31)), st (.store 1 (.t 32) (.t 30))])
     (.reg [o 33 (.mv (.t 1)), o 34 (.bin .add (.t 33) (.c (.int .i64 1))), o 1 (.mv (.t 34))])))))))
    (.reg [o 10 (.mv (.t 5)), o 11 (.bin .add (.t 10) (.c (.int .i64 1))), o 5 (.mv (.t 11))]))))))
  (.seq (.reg [o 35 (.mv (.t 1)), o 4 (.mv (.t 35))])
  (.ret))),
  [.tmp 4]⟩
/- loop.example/g03011/laws.markLineS -/
def F41 : Fun := ⟨41,
  .seq (.reg [o 4 (.mv (.c (.int .i64 0)))])
  (.seq (.seq (.reg [o 5 (.mv (.c (.int .i64 0)))])
  (.block 0 (.loop (.seq (.seq (.reg [o 6 (.mv (.t 5)), o 7 (.mv (.t 0)), o 8 (.lenL (.t 7)), o 9 (.bin .lss (.t 6) (.t 8))])
    (.cond (.t 9) (.skip) (.exit 0)))
    (.seq (.block 1 (.seq (.reg [o 12 (.mv (.t 0)), o 13 (.mv (.t 5)), o 14 (.mv (.t 1)), o 15 (.iaddr 4 (.t 12) (.t 13)), o 16 (.faddr 0 (.t 15)), st (.store 1 (.t 16) (.t 14))])
     (.seq (.reg [o 17 (.mv (.t 1)), o 18 (.bin .add (.t 17) (.c (.int .i64 1))), o 1 (.mv (.t 18))])
     (.seq (.reg [o 19 (.mv (.t 0)), o 20 (.mv (.t 5)), o 21 (.mv (.t 1)), o 22 (.iaddr 4 (.t 19) (.t 20)), o 23 (.faddr 1 (.t 22)), st (.store 1 (.t 23) (.t 21))])
     (.seq (.reg [o 24 (.mv (.t 1)), o 25 (.bin .add (.t 24) (.c (.int .i64 1))), o 1 (.mv (.t 25))])
     (.seq (.reg [o 26 (.mv (.t 0)), o 27 (.mv (.t 5)), o 28 (.mv (.t 1)), o 29 (.iaddr 4 (.t 26) (.t 27)), o 30 (.faddr 2 (.t 29)), st (.store 1 (.t 30) (.t 28))])
     (.seq (.reg [o 31 (.mv (.t 1)), o 32 (.bin .add (.t 31) (.c (.int .i64 1))), o 1 (.mv (.t 32))])
     (.reg [o 33 (.mv (.t 0)), o 34 (.mv (.t 5)), o 35 (.iaddr 4 (.t 33) (.t 34)), o 36 (.faddr 3 (.t 35)), o 37 (.load none (.t 36)), o 38 (.mv (.t 1)), o 39 (.call 87 [(.t 37), (.t 38)]), o 1 (.mv (.t 39))]))))))))
    (.reg [o 10 (.mv (.t 5)), o 11 (.bin .add (.t 10) (.c (.int .i64 1))), o 5 (.mv (.t 11))]))))))
  (.seq (.reg [o 40 (.mv (.t 1)), o 4 (.mv (.t 40))])
  (.ret))),
  [.tmp 4]⟩
/- loop.example/g03011/laws.markSessionS -/
def F42 : Fun := ⟨43,
  .seq (.reg [o 4 (.mv (.c (.int .i64 0)))])
  (.seq (.seq (.reg [o 5 (.mv (.c (.int .i64 0)))])
  (.block 0 (.loop (.seq (.seq (.reg [o 6 (.mv (.t 5)), o 7 (.mv (.t 0)), o 8 (.lenL (.t 7)), o 9 (.bin .lss (.t 6) (.t 8))])
    (.cond (.t 9) (.skip) (.exit 0)))
    (.seq (.block 1 (.seq (.reg [o 12 (.mv (.t 0)), o 13 (.mv (.t 5)), o 14 (.mv (.t 1)), o 15 (.call 86 [(.t 14)]), o 16 (.iaddr 4 (.t 12) (.t 13)), o 17 (.faddr 0 (.t 16)), st (.store 1 (.t 17) (.t 15))])
     (.seq (.reg [o 18 (.mv (.t 1)), o 19 (.bin .add (.t 18) (.c (.int .i64 1))), o 1 (.mv (.t 19))])
     (.seq (.reg [o 20 (.mv (.t 0)), o 21 (.mv (.t 5)), o 22 (.mv (.t 1)), o 23 (.call 86 [(.t 22)]), o 24 (.iaddr 4 (.t 20) (.t 21)), o 25 (.faddr 1 (.t 24)), st (.store 1 (.t 25) (.t 23))])
     (.seq (.reg [o 26 (.mv (.t 1)), o 27 (.bin .add (.t 26) (.c (.int .i64 1))), o 1 (.mv (.t 27))])
     (.seq (.reg [o 28 (.mv (.t 0)), o 29 (.mv (.t 5)), o 30 (.mv (.t 1)), o 31 (.iaddr 4 (.t 28) (.t 29)), o 32 (.faddr 2 (.t 31)), st (.store 1 (.t 32) (.t 30))])
     (.seq (.reg [o 33 (.mv (.t 1)), o 34 (.bin .add (.t 33) (.c (.int .i64 1))), o 1 (.mv (.t 34))])
     (.seq (.reg [o 35 (.mv (.t 0)), o 36 (.mv (.t 5)), o 37 (.mv (.t 1)), o 38 (.iaddr 4 (.t 35) (.t 36)), o 39 (.faddr 3 (.t 38)), st (.store 1 (.t 39) (.t 37))])
     (.reg [o 40 (.mv (.t 1)), o 41 (.bin .add (.t 40) (.c (.int .i64 1))), o 1 (.mv (.t 41))])))))))))
    (.reg [o 10 (.mv (.t 5)), o 11 (.bin .add (.t 10) (.c (.int .i64 1))), o 5 (.mv (.t 11))]))))))
  (.seq (.reg [o 42 (.mv (.t 1)), o 4 (.mv (.t 42))])
  (.ret))),
  [.tmp 4]⟩
/- loop.example/g03011/laws.markJobS -/
def F43 : Fun := ⟨53,
  .seq (.reg [o 4 (.mv (.c (.int .i64 0)))])
  (.seq (.seq (.reg [o 5 (.mv (.c (.int .i64 0)))])
  (.block 0 (.loop (.seq (.seq (.reg [o 6 (.mv (.t 5)), o 7 (.mv (.t 0)), o 8 (.lenL (.t 7)), o 9 (.bin .lss (.t 6) (.t 8))])
    (.cond (.t 9) (.skip) (.exit 0)))
    (.seq (.block 1 (.seq (.reg [o 12 (.mv (.t 0)), o 13 (.mv (.t 5)), o 14 (.mv (.t 1)), o 15 (.iaddr 5 (.t 12) (.t 13)), o 16 (.faddr 0 (.t 15)), st (.store 1 (.t 16) (.t 14))])
     (.seq (.reg [o 17 (.mv (.t 1)), o 18 (.bin .add (.t 17) (.c (.int .i64 1))), o 1 (.mv (.t 18))])
     (.seq (.reg [o 19 (.mv (.t 0)), o 20 (.mv (.t 5)), o 21 (.mv (.t 1)), o 22 (.call 86 [(.t 21)]), o 23 (.iaddr 5 (.t 19) (.t 20)), o 24 (.faddr 1 (.t 23)), o 25 (.faddr 0 (.t 24)), st (.store 1 (.t 25) (.t 22))])
     (.seq (.reg [o 26 (.mv (.t 1)), o 27 (.bin .add (.t 26) (.c (.int .i64 1))), o 1 (.mv (.t 27))])
     (.seq (.reg [o 28 (.mv (.t 0)), o 29 (.mv (.t 5)), o 30 (.iaddr 5 (.t 28) (.t 29)), o 31 (.faddr 1 (.t 30)), o 32 (.faddr 1 (.t 31)), o 33 (.load none (.t 32)), o 34 (.mv (.t 1)), o 35 (.call 88 [(.t 33), (.t 34)]), o 1 (.mv (.t 35))])
     (.seq (.reg [o 36 (.mv (.t 0)), o 37 (.mv (.t 5)), o 38 (.iaddr 5 (.t 36) (.t 37)), o 39 (.faddr 1 (.t 38)), o 40 (.faddr 2 (.t 39)), o 41 (.load none (.t 40)), o 42 (.mv (.t 1)), o 43 (.call 88 [(.t 41), (.t 42)]), o 1 (.mv (.t 43))])
     (.seq (.reg [o 44 (.mv (.t 0)), o 45 (.mv (.t 5)), o 46 (.mv (.t 1)), o 47 (.call 86 [(.t 46)]), o 48 (.iaddr 5 (.t 44) (.t 45)), o 49 (.faddr 4 (.t 48)), st (.store 1 (.t 49) (.t 47))])
     (.reg [o 50 (.mv (.t 1)), o 51 (.bin .add (.t 50) (.c (.int .i64 1))), o 1 (.mv (.t 51))])))))))))
    (.reg [o 10 (.mv (.t 5)), o 11 (.bin .add (.t 10) (.c (.int .i64 1))), o 5 (.mv (.t 11))]))))))
  (.seq (.reg [o 52 (.mv (.t 1)), o 4 (.mv (.t 52))])
  (.ret))),
  [.tmp 4]⟩
/- loop.example/g03011/laws.markWorkerS -/
def F44 : Fun := ⟨87,
  .seq (.reg [o 4 (.mv (.c (.int .i64 0)))])
  (.seq (.seq (.reg [o 5 (.mv (.c (.int .i64 0)))])
  (.block 0 (.loop (.seq (.seq (.reg [o 6 (.mv (.t 5)), o 7 (.mv (.t 0)), o 8 (.lenL (.t 7)), o 9 (.bin .lss (.t 6) (.t 8))])
    (.cond (.t 9) (.skip) (.exit 0)))
    (.seq (.block 1 (.seq (.reg [o 12 (.mv (.t 0)), o 13 (.mv (.t 5)), o 14 (.mv (.t 1)), o 15 (.iaddr 9 (.t 12) (.t 13)), o 16 (.faddr 0 (.t 15)), st (.store 1 (.t 16) (.t 14))])
     (.seq (.reg [o 17 (.mv (.t 1)), o 18 (.bin .add (.t 17) (.c (.int .i64 1))), o 1 (.mv (.t 18))])
     (.seq (.reg [o 19 (.mv (.t 0)), o 20 (.mv (.t 5)), o 21 (.mv (.t 1)), o 22 (.iaddr 9 (.t 19) (.t 20)), o 23 (.faddr 1 (.t 22)), o 24 (.faddr 0 (.t 23)), st (.store 1 (.t 24) (.t 21))])
     (.seq (.reg [o 25 (.mv (.t 1)), o 26 (.bin .add (.t 25) (.c (.int .i64 1))), o 1 (.mv (.t 26))])
     (.seq (.reg [o 27 (.mv (.t 0)), o 28 (.mv (.t 5)), o 29 (.mv (.t 1)), o 30 (.call 86 [(.t 29)]), o 31 (.iaddr 9 (.t 27) (.t 28)), o 32 (.faddr 1 (.t 31)), o 33 (.faddr 1 (.t 32)), o 34 (.faddr 0 (.t 33)), st (.store 1 (.t 34) (.t 30))])
     (.seq (.reg [o 35 (.mv (.t 1)), o 36 (.bin .add (.t 35) (.c (.int .i64 1))), o 1 (.mv (.t 36))])
     (.seq (.reg [o 37 (.mv (.t 0)), o 38 (.mv (.t 5)), o 39 (.iaddr 9 (.t 37) (.t 38)), o 40 (.faddr 1 (.t 39)), o 41 (.faddr 1 (.t 40)), o 42 (.faddr 1 (.t 41)), o 43 (.load none (.t 42)), o 44 (.mv (.t 1)), o 45 (.call 88 [(.t 43), (.t 44)]), o 1 (.mv (.t 45))])
     (.seq (.reg [o 46 (.mv (.t 0)), o 47 (.mv (.t 5)), o 48 (.iaddr 9 (.t 46) (.t 47)), o 49 (.faddr 1 (.t 48)), o 50 (.faddr 1 (.t 49)), o 51 (.faddr 2 (.t 50)), o 52 (.load none (.t 51)), o 53 (.mv (.t 1)), o 54 (.call 88 [(.t 52), (.t 53)]), o 1 (.mv (.t 54))])
     (.seq (.reg [o 55 (.mv (.t 0)), o 56 (.mv (.t 5)), o 57 (.mv (.t 1)), o 58 (.call 86 [(.t 57)]), o 59 (.iaddr 9 (.t 55) (.t 56)), o 60 (.faddr 1 (.t 59)), o 61 (.faddr 4 (.t 60)), st (.store 1 (.t 61) (.t 58))])
     (.seq (.reg [o 62 (.mv (.t 1)), o 63 (.bin .add (.t 62) (.c (.int .i64 1))), o 1 (.mv (.t 63))])
     (.seq (.reg [o 64 (.mv (.t 0)), o 65 (.mv (.t 5)), o 66 (.mv (.t 1)), o 67 (.call 86 [(.t 66)]), o 68 (.iaddr 9 (.t 64) (.t 65)), o 69 (.faddr 6 (.t 68)), st (.store 1 (.t 69) (.t 67))])
     (.seq (.reg [o 70 (.mv (.t 1)), o 71 (.bin .add (.t 70) (.c (.int .i64 1))), o 1 (.mv (.t 71))])
     (.seq (.reg [o 72 (.mv (.t 0)), o 73 (.mv (.t 5)), o 74 (.iaddr 9 (.t 72) (.t 73)), o 75 (.faddr 7 (.t 74)), o 76 (.load none (.t 75)), o 77 (.mv (.t 1)), o 78 (.call 40 [(.t 76), (.t 77)]), o 1 (.mv (.t 78))])
     (.seq (.reg [o 79 (.mv (.t 0)), o 80 (.mv (.t 5)), o 81 (.mv (.t 1)), o 82 (.iaddr 9 (.t 79) (.t 80)), o 83 (.faddr 8 (.t 82)), st (.store 1 (.t 83) (.t 81))])
     (.reg [o 84 (.mv (.t 1)), o 85 (.bin .add (.t 84) (.c (.int .i64 1))), o 1 (.mv (.t 85))]))))))))))))))))
    (.reg [o 10 (.mv (.t 5)), o 11 (.bin .add (.t 10) (.c (.int .i64 1))), o 5 (.mv (.t 11))]))))))
  (.seq (.reg [o 86 (.mv (.t 1)), o 4 (.mv (.t 86))])
  (.ret))),
  [.tmp 4]⟩
/- loop.example/g03011/laws.markAnswerS -/
def F45 : Fun := ⟨101,
  .seq (.reg [o 4 (.mv (.c (.int .i64 0)))])
  (.seq (.seq (.reg [o 5 (.mv (.c (.int .i64 0)))])
  (.block 0 (.loop (.seq (.seq (.reg [o 6 (.mv (.t 5)), o 7 (.mv (.t 0)), o 8 (.lenL (.t 7)), o 9 (.bin .lss (.t 6) (.t 8))])
    (.cond (.t 9) (.skip) (.exit 0)))
    (.seq (.block 1 (.seq (.reg [o 12 (.mv (.t 0)), o 13 (.mv (.t 5)), o 14 (.mv (.t 1)), o 15 (.iaddr 11 (.t 12) (.t 13)), o 16 (.faddr 0 (.t 15)), st (.store 1 (.t 16) (.t 14))])
     (.seq (.reg [o 17 (.mv (.t 1)), o 18 (.bin .add (.t 17) (.c (.int .i64 1))), o 1 (.mv (.t 18))])
     (.seq (.reg [o 19 (.mv (.t 0)), o 20 (.mv (.t 5)), o 21 (.mv (.t 1)), o 22 (.call 86 [(.t 21)]), o 23 (.iaddr 11 (.t 19) (.t 20)), o 24 (.faddr 1 (.t 23)), st (.store 1 (.t 24) (.t 22))])
     (.seq (.reg [o 25 (.mv (.t 1)), o 26 (.bin .add (.t 25) (.c (.int .i64 1))), o 1 (.mv (.t 26))])
     (.seq (.reg [o 27 (.mv (.t 0)), o 28 (.mv (.t 5)), o 29 (.iaddr 11 (.t 27) (.t 28)), o 30 (.faddr 2 (.t 29)), o 31 (.load none (.t 30)), o 32 (.mv (.t 1)), o 33 (.call 40 [(.t 31), (.t 32)]), o 1 (.mv (.t 33))])
     (.seq (.reg [o 34 (.mv (.t 0)), o 35 (.mv (.t 5)), o 36 (.mv (.t 1)), o 37 (.call 86 [(.t 36)]), o 38 (.iaddr 11 (.t 34) (.t 35)), o 39 (.faddr 3 (.t 38)), o 40 (.faddr 0 (.t 39)), st (.store 1 (.t 40) (.t 37))])
     (.seq (.reg [o 41 (.mv (.t 1)), o 42 (.bin .add (.t 41) (.c (.int .i64 1))), o 1 (.mv (.t 42))])
     (.seq (.reg [o 43 (.mv (.t 0)), o 44 (.mv (.t 5)), o 45 (.iaddr 11 (.t 43) (.t 44)), o 46 (.faddr 3 (.t 45)), o 47 (.faddr 1 (.t 46)), o 48 (.load none (.t 47)), o 49 (.mv (.t 1)), o 50 (.call 88 [(.t 48), (.t 49)]), o 1 (.mv (.t 50))])
     (.seq (.reg [o 51 (.mv (.t 0)), o 52 (.mv (.t 5)), o 53 (.iaddr 11 (.t 51) (.t 52)), o 54 (.faddr 3 (.t 53)), o 55 (.faddr 2 (.t 54)), o 56 (.load none (.t 55)), o 57 (.mv (.t 1)), o 58 (.call 88 [(.t 56), (.t 57)]), o 1 (.mv (.t 58))])
     (.seq (.reg [o 59 (.mv (.t 0)), o 60 (.mv (.t 5)), o 61 (.mv (.t 1)), o 62 (.call 86 [(.t 61)]), o 63 (.iaddr 11 (.t 59) (.t 60)), o 64 (.faddr 6 (.t 63)), st (.store 1 (.t 64) (.t 62))])
     (.seq (.reg [o 65 (.mv (.t 1)), o 66 (.bin .add (.t 65) (.c (.int .i64 1))), o 1 (.mv (.t 66))])
     (.seq (.reg [o 67 (.mv (.t 0)), o 68 (.mv (.t 5)), o 69 (.mv (.t 1)), o 70 (.iaddr 11 (.t 67) (.t 68)), o 71 (.faddr 7 (.t 70)), o 72 (.faddr 0 (.t 71)), st (.store 1 (.t 72) (.t 69))])
     (.seq (.reg [o 73 (.mv (.t 1)), o 74 (.bin .add (.t 73) (.c (.int .i64 1))), o 1 (.mv (.t 74))])
     (.seq (.reg [o 75 (.mv (.t 0)), o 76 (.mv (.t 5)), o 77 (.iaddr 11 (.t 75) (.t 76)), o 78 (.faddr 7 (.t 77)), o 79 (.faddr 1 (.t 78)), o 80 (.load none (.t 79)), o 81 (.mv (.t 1)), o 82 (.call 89 [(.t 80), (.t 81)]), o 1 (.mv (.t 82))])
     (.seq (.reg [o 83 (.mv (.t 0)), o 84 (.mv (.t 5)), o 85 (.mv (.t 1)), o 86 (.call 86 [(.t 85)]), o 87 (.iaddr 11 (.t 83) (.t 84)), o 88 (.faddr 7 (.t 87)), o 89 (.faddr 2 (.t 88)), st (.store 1 (.t 89) (.t 86))])
     (.seq (.reg [o 90 (.mv (.t 1)), o 91 (.bin .add (.t 90) (.c (.int .i64 1))), o 1 (.mv (.t 91))])
     (.seq (.reg [o 92 (.mv (.t 0)), o 93 (.mv (.t 5)), o 94 (.mv (.t 1)), o 95 (.call 86 [(.t 94)]), o 96 (.iaddr 11 (.t 92) (.t 93)), o 97 (.faddr 10 (.t 96)), st (.store 1 (.t 97) (.t 95))])
     (.reg [o 98 (.mv (.t 1)), o 99 (.bin .add (.t 98) (.c (.int .i64 1))), o 1 (.mv (.t 99))])))))))))))))))))))
    (.reg [o 10 (.mv (.t 5)), o 11 (.bin .add (.t 10) (.c (.int .i64 1))), o 5 (.mv (.t 11))]))))))
  (.seq (.reg [o 100 (.mv (.t 1)), o 4 (.mv (.t 100))])
  (.ret))),
  [.tmp 4]⟩
/- loop.example/g03011/laws.heldFileS -/
def F46 : Fun := ⟨42,
  .seq (.reg [o 4 (.mv (.c (.int .i64 0)))])
  (.seq (.seq (.reg [o 5 (.mv (.c (.int .i64 0)))])
  (.block 0 (.loop (.seq (.seq (.reg [o 6 (.mv (.t 5)), o 7 (.mv (.t 0)), o 8 (.lenL (.t 7)), o 9 (.bin .lss (.t 6) (.t 8))])
    (.cond (.t 9) (.skip) (.exit 0)))
    (.seq (.block 1 (.seq (.seq (.reg [o 12 (.mv (.t 0)), o 13 (.mv (.t 5)), o 14 (.iaddr 3 (.t 12) (.t 13)), o 15 (.faddr 0 (.t 14)), o 16 (.load none (.t 15)), o 17 (.mv (.t 1)), o 18 (.callF 86 [(.t 17)]), o 19 (.bin .neq (.t 16) (.t 18))])
     (.cond (.t 19) (.seq (.reg [o 4 (.mv (.c (.int .i64 (-1))))])
      (.ret)) (.skip)))
     (.seq (.reg [o 20 (.mv (.t 1)), o 21 (.bin .add (.t 20) (.c (.int .i64 1))), o 1 (.mv (.t 21))])
     (.seq (.seq (.reg [o 22 (.mv (.t 0)), o 23 (.mv (.t 5)), o 24 (.iaddr 3 (.t 22) (.t 23)), o 25 (.faddr 1 (.t 24)), o 26 (.load none (.t 25)), o 27 (.mv (.t 1)), o 28 (.callF 86 [(.t 27)]), o 29 (.bin .neq (.t 26) (.t 28))])
     (.cond (.t 29) (.seq (.reg [o 4 (.mv (.c (.int .i64 (-1))))])
      (.ret)) (.skip)))
     (.seq (.reg [o 30 (.mv (.t 1)), o 31 (.bin .add (.t 30) (.c (.int .i64 1))), o 1 (.mv (.t 31))])
     (.seq (.seq (.reg [o 32 (.mv (.t 0)), o 33 (.mv (.t 5)), o 34 (.iaddr 3 (.t 32) (.t 33)), o 35 (.faddr 2 (.t 34)), o 36 (.load none (.t 35)), o 37 (.mv (.t 1)), o 38 (.bin .neq (.t 36) (.t 37))])
     (.cond (.t 38) (.seq (.reg [o 4 (.mv (.c (.int .i64 (-1))))])
      (.ret)) (.skip)))
     (.reg [o 39 (.mv (.t 1)), o 40 (.bin .add (.t 39) (.c (.int .i64 1))), o 1 (.mv (.t 40))])))))))
    (.reg [o 10 (.mv (.t 5)), o 11 (.bin .add (.t 10) (.c (.int .i64 1))), o 5 (.mv (.t 11))]))))))
  (.seq (.reg [o 41 (.mv (.t 1)), o 4 (.mv (.t 41))])
  (.ret))),
  [.tmp 4]⟩
/- loop.example/g03011/laws.heldLineS -/
def F47 : Fun := ⟨49,
  .seq (.reg [o 4 (.mv (.c (.int .i64 0)))])
  (.seq (.seq (.reg [o 5 (.mv (.c (.int .i64 0)))])
  (.block 0 (.loop (.seq (.seq (.reg [o 6 (.mv (.t 5)), o 7 (.mv (.t 0)), o 8 (.lenL (.t 7)), o 9 (.bin .lss (.t 6) (.t 8))])
    (.cond (.t 9) (.skip) (.exit 0)))
    (.seq (.block 1 (.seq (.seq (.reg [o 12 (.mv (.t 0)), o 13 (.mv (.t 5)), o 14 (.iaddr 4 (.t 12) (.t 13)), o 15 (.faddr 0 (.t 14)), o 16 (.load none (.t 15)), o 17 (.mv (.t 1)), o 18 (.bin .neq (.t 16) (.t 17))])
     (.cond (.t 18) (.seq (.reg [o 4 (.mv (.c (.int .i64 (-1))))])
      (.ret)) (.skip)))
     (.seq (.reg [o 19 (.mv (.t 1)), o 20 (.bin .add (.t 19) (.c (.int .i64 1))), o 1 (.mv (.t 20))])
     (.seq (.seq (.reg [o 21 (.mv (.t 0)), o 22 (.mv (.t 5)), o 23 (.iaddr 4 (.t 21) (.t 22)), o 24 (.faddr 1 (.t 23)), o 25 (.load none (.t 24)), o 26 (.mv (.t 1)), o 27 (.bin .neq (.t 25) (.t 26))])
     (.cond (.t 27) (.seq (.reg [o 4 (.mv (.c (.int .i64 (-1))))])
      (.ret)) (.skip)))
     (.seq (.reg [o 28 (.mv (.t 1)), o 29 (.bin .add (.t 28) (.c (.int .i64 1))), o 1 (.mv (.t 29))])
     (.seq (.seq (.reg [o 30 (.mv (.t 0)), o 31 (.mv (.t 5)), o 32 (.iaddr 4 (.t 30) (.t 31)), o 33 (.faddr 2 (.t 32)), o 34 (.load none (.t 33)), o 35 (.mv (.t 1)), o 36 (.bin .neq (.t 34) (.t 35))])
     (.cond (.t 36) (.seq (.reg [o 4 (.mv (.c (.int .i64 (-1))))])
      (.ret)) (.skip)))
     (.seq (.reg [o 37 (.mv (.t 1)), o 38 (.bin .add (.t 37) (.c (.int .i64 1))), o 1 (.mv (.t 38))])
     (.seq (.reg [o 39 (.mv (.t 0)), o 40 (.mv (.t 5)), o 41 (.iaddr 4 (.t 39) (.t 40)), o 42 (.faddr 3 (.t 41)), o 43 (.load none (.t 42)), o 44 (.mv (.t 1)), o 45 (.call 90 [(.t 43), (.t 44)]), o 1 (.mv (.t 45))])
     (.seq (.reg [o 46 (.mv (.t 1)), o 47 (.bin .lss (.t 46) (.c (.int .i64 0)))])
     (.cond (.t 47) (.seq (.reg [o 4 (.mv (.c (.int .i64 (-1))))])
      (.ret)) (.skip)))))))))))
    (.reg [o 10 (.mv (.t 5)), o 11 (.bin .add (.t 10) (.c (.int .i64 1))), o 5 (.mv (.t 11))]))))))
  (.seq (.reg [o 48 (.mv (.t 1)), o 4 (.mv (.t 48))])
  (.ret))),
  [.tmp 4]⟩
/- loop.example/g03011/laws.heldSessionS -/
def F48 : Fun := ⟨51,
  .seq (.reg [o 4 (.mv (.c (.int .i64 0)))])
  (.seq (.seq (.reg [o 5 (.mv (.c (.int .i64 0)))])
  (.block 0 (.loop (.seq (.seq (.reg [o 6 (.mv (.t 5)), o 7 (.mv (.t 0)), o 8 (.lenL (.t 7)), o 9 (.bin .lss (.t 6) (.t 8))])
    (.cond (.t 9) (.skip) (.exit 0)))
    (.seq (.block 1 (.seq (.seq (.reg [o 12 (.mv (.t 0)), o 13 (.mv (.t 5)), o 14 (.iaddr 4 (.t 12) (.t 13)), o 15 (.faddr 0 (.t 14)), o 16 (.load none (.t 15)), o 17 (.mv (.t 1)), o 18 (.callF 86 [(.t 17)]), o 19 (.bin .neq (.t 16) (.t 18))])
     (.cond (.t 19) (.seq (.reg [o 4 (.mv (.c (.int .i64 (-1))))])
      (.ret)) (.skip)))
     (.seq (.reg [o 20 (.mv (.t 1)), o 21 (.bin .add (.t 20) (.c (.int .i64 1))), o 1 (.mv (.t 21))])
     (.seq (.seq (.reg [o 22 (.mv (.t 0)), o 23 (.mv (.t 5)), o 24 (.iaddr 4 (.t 22) (.t 23)), o 25 (.faddr 1 (.t 24)), o 26 (.load none (.t 25)), o 27 (.mv (.t 1)), o 28 (.callF 86 [(.t 27)]), o 29 (.bin .neq (.t 26) (.t 28))])
     (.cond (.t 29) (.seq (.reg [o 4 (.mv (.c (.int .i64 (-1))))])
      (.ret)) (.skip)))
     (.seq (.reg [o 30 (.mv (.t 1)), o 31 (.bin .add (.t 30) (.c (.int .i64 1))), o 1 (.mv (.t 31))])
     (.seq (.seq (.reg [o 32 (.mv (.t 0)), o 33 (.mv (.t 5)), o 34 (.iaddr 4 (.t 32) (.t 33)), o 35 (.faddr 2 (.t 34)), o 36 (.load none (.t 35)), o 37 (.mv (.t 1)), o 38 (.bin .neq (.t 36) (.t 37))])
     (.cond (.t 38) (.seq (.reg [o 4 (.mv (.c (.int .i64 (-1))))])
      (.ret)) (.skip)))
     (.seq (.reg [o 39 (.mv (.t 1)), o 40 (.bin .add (.t 39) (.c (.int .i64 1))), o 1 (.mv (.t 40))])
     (.seq (.seq (.reg [o 41 (.mv (.t 0)), o 42 (.mv (.t 5)), o 43 (.iaddr 4 (.t 41) (.t 42)), o 44 (.faddr 3 (.t 43)), o 45 (.load none (.t 44)), o 46 (.mv (.t 1)), o 47 (.bin .neq (.t 45) (.t 46))])
     (.cond (.t 47) (.seq (.reg [o 4 (.mv (.c (.int .i64 (-1))))])
      (.ret)) (.skip)))
     (.reg [o 48 (.mv (.t 1)), o 49 (.bin .add (.t 48) (.c (.int .i64 1))), o 1 (.mv (.t 49))])))))))))
    (.reg [o 10 (.mv (.t 5)), o 11 (.bin .add (.t 10) (.c (.int .i64 1))), o 5 (.mv (.t 11))]))))))
  (.seq (.reg [o 50 (.mv (.t 1)), o 4 (.mv (.t 50))])
  (.ret))),
  [.tmp 4]⟩
/- loop.example/g03011/laws.heldJobS -/
def F49 : Fun := ⟨63,
  .seq (.reg [o 4 (.mv (.c (.int .i64 0)))])
  (.seq (.seq (.reg [o 5 (.mv (.c (.int .i64 0)))])
  (.block 0 (.loop (.seq (.seq (.reg [o 6 (.mv (.t 5)), o 7 (.mv (.t 0)), o 8 (.lenL (.t 7)), o 9 (.bin .lss (.t 6) (.t 8))])
    (.cond (.t 9) (.skip) (.exit 0)))
    (.seq (.block 1 (.seq (.seq (.reg [o 12 (.mv (.t 0)), o 13 (.mv (.t 5)), o 14 (.iaddr 5 (.t 12) (.t 13)), o 15 (.faddr 0 (.t 14)), o 16 (.load none (.t 15)), o 17 (.mv (.t 1)), o 18 (.bin .neq (.t 16) (.t 17))])
     (.cond (.t 18) (.seq (.reg [o 4 (.mv (.c (.int .i64 (-1))))])
      (.ret)) (.skip)))
     (.seq (.reg [o 19 (.mv (.t 1)), o 20 (.bin .add (.t 19) (.c (.int .i64 1))), o 1 (.mv (.t 20))])
     (.seq (.seq (.reg [o 21 (.mv (.t 0)), o 22 (.mv (.t 5)), o 23 (.iaddr 5 (.t 21) (.t 22)), o 24 (.faddr 1 (.t 23)), o 25 (.faddr 0 (.t 24)), o 26 (.load none (.t 25)), o 27 (.mv (.t 1)), o 28 (.callF 86 [(.t 27)]), o 29 (.bin .neq (.t 26) (.t 28))])
     (.cond (.t 29) (.seq (.reg [o 4 (.mv (.c (.int .i64 (-1))))])
      (.ret)) (.skip)))
     (.seq (.reg [o 30 (.mv (.t 1)), o 31 (.bin .add (.t 30) (.c (.int .i64 1))), o 1 (.mv (.t 31))])
     (.seq (.reg [o 32 (.mv (.t 0)), o 33 (.mv (.t 5)), o 34 (.iaddr 5 (.t 32) (.t 33)), o 35 (.faddr 1 (.t 34)), o 36 (.faddr 1 (.t 35)), o 37 (.load none (.t 36)), o 38 (.mv (.t 1)), o 39 (.call 91 [(.t 37), (.t 38)]), o 1 (.mv (.t 39))])
     (.seq (.seq (.reg [o 40 (.mv (.t 1)), o 41 (.bin .lss (.t 40) (.c (.int .i64 0)))])
     (.cond (.t 41) (.seq (.reg [o 4 (.mv (.c (.int .i64 (-1))))])
      (.ret)) (.skip)))
     (.seq (.reg [o 42 (.mv (.t 0)), o 43 (.mv (.t 5)), o 44 (.iaddr 5 (.t 42) (.t 43)), o 45 (.faddr 1 (.t 44)), o 46 (.faddr 2 (.t 45)), o 47 (.load none (.t 46)), o 48 (.mv (.t 1)), o 49 (.call 91 [(.t 47), (.t 48)]), o 1 (.mv (.t 49))])
     (.seq (.seq (.reg [o 50 (.mv (.t 1)), o 51 (.bin .lss (.t 50) (.c (.int .i64 0)))])
     (.cond (.t 51) (.seq (.reg [o 4 (.mv (.c (.int .i64 (-1))))])
      (.ret)) (.skip)))
     (.seq (.seq (.reg [o 52 (.mv (.t 0)), o 53 (.mv (.t 5)), o 54 (.iaddr 5 (.t 52) (.t 53)), o 55 (.faddr 4 (.t 54)), o 56 (.load none (.t 55)), o 57 (.mv (.t 1)), o 58 (.callF 86 [(.t 57)]), o 59 (.bin .neq (.t 56) (.t 58))])
     (.cond (.t 59) (.seq (.reg [o 4 (.mv (.c (.int .i64 (-1))))])
      (.ret)) (.skip)))
     (.reg [o 60 (.mv (.t 1)), o 61 (.bin .add (.t 60) (.c (.int .i64 1))), o 1 (.mv (.t 61))])))))))))))
    (.reg [o 10 (.mv (.t 5)), o 11 (.bin .add (.t 10) (.c (.int .i64 1))), o 5 (.mv (.t 11))]))))))
  (.seq (.reg [o 62 (.mv (.t 1)), o 4 (.mv (.t 62))])
  (.ret))),
  [.tmp 4]⟩
/- loop.example/g03011/laws.heldWorkerS -/
def F50 : Fun := ⟨105,
  .seq (.reg [o 4 (.mv (.c (.int .i64 0)))])
  (.seq (.seq (.reg [o 5 (.mv (.c (.int .i64 0)))])
  (.block 0 (.loop (.seq (.seq (.reg [o 6 (.mv (.t 5)), o 7 (.mv (.t 0)), o 8 (.lenL (.t 7)), o 9 (.bin .lss (.t 6) (.t 8))])
    (.cond (.t 9) (.skip) (.exit 0)))
    (.seq (.block 1 (.seq (.seq (.reg [o 12 (.mv (.t 0)), o 13 (.mv (.t 5)), o 14 (.iaddr 9 (.t 12) (.t 13)), o 15 (.faddr 0 (.t 14)), o 16 (.load none (.t 15)), o 17 (.mv (.t 1)), o 18 (.bin .neq (.t 16) (.t 17))])
     (.cond (.t 18) (.seq (.reg [o 4 (.mv (.c (.int .i64 (-1))))])
      (.ret)) (.skip)))
     (.seq (.reg [o 19 (.mv (.t 1)), o 20 (.bin .add (.t 19) (.c (.int .i64 1))), o 1 (.mv (.t 20))])
     (.seq (.seq (.reg [o 21 (.mv (.t 0)), o 22 (.mv (.t 5)), o 23 (.iaddr 9 (.t 21) (.t 22)), o 24 (.faddr 1 (.t 23)), o 25 (.faddr 0 (.t 24)), o 26 (.load none (.t 25)), o 27 (.mv (.t 1)), o 28 (.bin .neq (.t 26) (.t 27))])
     (.cond (.t 28) (.seq (.reg [o 4 (.mv (.c (.int .i64 (-1))))])
      (.ret)) (.skip)))
     (.seq (.reg [o 29 (.mv (.t 1)), o 30 (.bin .add (.t 29) (.c (.int .i64 1))), o 1 (.mv (.t 30))])
     (.seq (.seq (.reg [o 31 (.mv (.t 0)), o 32 (.mv (.t 5)), o 33 (.iaddr 9 (.t 31) (.t 32)), o 34 (.faddr 1 (.t 33)), o 35 (.faddr 1 (.t 34)), o 36 (.faddr 0 (.t 35)), o 37 (.load none (.t 36)), o 38 (.mv (.t 1)), o 39 (.callF 86 [(.t 38)]), o 40 (.bin .neq (.t 37) (.t 39))])
     (.cond (.t 40) (.seq (.reg [o 4 (.mv (.c (.int .i64 (-1))))])
      (.ret)) (.skip)))
     (.seq (.reg [o 41 (.mv (.t 1)), o 42 (.bin .add (.t 41) (.c (.int .i64 1))), o 1 (.mv (.t 42))])
     (.seq (.reg [o 43 (.mv (.t 0)), o 44 (.mv (.t 5)), o 45 (.iaddr 9 (.t 43) (.t 44)), o 46 (.faddr 1 (.t 45)), o 47 (.faddr 1 (.t 46)), o 48 (.faddr 1 (.t 47)), o 49 (.load none (.t 48)), o 50 (.mv (.t 1)), o 51 (.call 91 [(.t 49), (.t 50)]), o 1 (.mv (.t 51))])
     (.seq (.seq (.reg [o 52 (.mv (.t 1)), o 53 (.bin .lss (.t 52) (.c (.int .i64 0)))])
     (.cond (.t 53) (.seq (.reg [o 4 (.mv (.c (.int .i64 (-1))))])
      (.ret)) (.skip)))
     (.seq (.reg [o 54 (.mv (.t 0)), o 55 (.mv (.t 5)), o 56 (.iaddr 9 (.t 54) (.t 55)), o 57 (.faddr 1 (.t 56)), o 58 (.faddr 1 (.t 57)), o 59 (.faddr 2 (.t 58)), o 60 (.load none (.t 59)), o 61 (.mv (.t 1)), o 62 (.call 91 [(.t 60), (.t 61)]), o 1 (.mv (.t 62))])
     (.seq (.seq (.reg [o 63 (.mv (.t 1)), o 64 (.bin .lss (.t 63) (.c (.int .i64 0)))])
     (.cond (.t 64) (.seq (.reg [o 4 (.mv (.c (.int .i64 (-1))))])
      (.ret)) (.skip)))
     (.seq (.seq (.reg [o 65 (.mv (.t 0)), o 66 (.mv (.t 5)), o 67 (.iaddr 9 (.t 65) (.t 66)), o 68 (.faddr 1 (.t 67)), o 69 (.faddr 4 (.t 68)), o 70 (.load none (.t 69)), o 71 (.mv (.t 1)), o 72 (.callF 86 [(.t 71)]), o 73 (.bin .neq (.t 70) (.t 72))])
     (.cond (.t 73) (.seq (.reg [o 4 (.mv (.c (.int .i64 (-1))))])
      (.ret)) (.skip)))
     (.seq (.reg [o 74 (.mv (.t 1)), o 75 (.bin .add (.t 74) (.c (.int .i64 1))), o 1 (.mv (.t 75))])
     (.seq (.seq (.reg [o 76 (.mv (.t 0)), o 77 (.mv (.t 5)), o 78 (.iaddr 9 (.t 76) (.t 77)), o 79 (.faddr 6 (.t 78)), o 80 (.load none (.t 79)), o 81 (.mv (.t 1)), o 82 (.callF 86 [(.t 81)]), o 83 (.bin .neq (.t 80) (.t 82))])
     (.cond (.t 83) (.seq (.reg [o 4 (.mv (.c (.int .i64 (-1))))])
      (.ret)) (.skip)))
     (.seq (.reg [o 84 (.mv (.t 1)), o 85 (.bin .add (.t 84) (.c (.int .i64 1))), o 1 (.mv (.t 85))])
     (.seq (.reg [o 86 (.mv (.t 0)), o 87 (.mv (.t 5)), o 88 (.iaddr 9 (.t 86) (.t 87)), o 89 (.faddr 7 (.t 88)), o 90 (.load none (.t 89)), o 91 (.mv (.t 1)), o 92 (.call 46 [(.t 90), (.t 91)]), o 1 (.mv (.t 92))])
     (.seq (.seq (.reg [o 93 (.mv (.t 1)), o 94 (.bin .lss (.t 93) (.c (.int .i64 0)))])
     (.cond (.t 94) (.seq (.reg [o 4 (.mv (.c (.int .i64 (-1))))])
      (.ret)) (.skip)))
     (.seq (.seq (.reg [o 95 (.mv (.t 0)), o 96 (.mv (.t 5)), o 97 (.iaddr 9 (.t 95) (.t 96)), o 98 (.faddr 8 (.t 97)), o 99 (.load none (.t 98)), o 100 (.mv (.t 1)), o 101 (.bin .neq (.t 99) (.t 100))])
     (.cond (.t 101) (.seq (.reg [o 4 (.mv (.c (.int .i64 (-1))))])
      (.ret)) (.skip)))
     (.reg [o 102 (.mv (.t 1)), o 103 (.bin .add (.t 102) (.c (.int .i64 1))), o 1 (.mv (.t 103))])))))))))))))))))))
    (.reg [o 10 (.mv (.t 5)), o 11 (.bin .add (.t 10) (.c (.int .i64 1))), o 5 (.mv (.t 11))]))))))
  (.seq (.reg [o 104 (.mv (.t 1)), o 4 (.mv (.t 104))])
  (.ret))),
  [.tmp 4]⟩
/- loop.example/g03011/laws.heldAnswerS -/
def F51 : Fun := ⟨123,
  .seq (.reg [o 4 (.mv (.c (.int .i64 0)))])
  (.seq (.seq (.reg [o 5 (.mv (.c (.int .i64 0)))])
  (.block 0 (.loop (.seq (.seq (.reg [o 6 (.mv (.t 5)), o 7 (.mv (.t 0)), o 8 (.lenL (.t 7)), o 9 (.bin .lss (.t 6) (.t 8))])
    (.cond (.t 9) (.skip) (.exit 0)))
    (.seq (.block 1 (.seq (.seq (.reg [o 12 (.mv (.t 0)), o 13 (.mv (.t 5)), o 14 (.iaddr 11 (.t 12) (.t 13)), o 15 (.faddr 0 (.t 14)), o 16 (.load none (.t 15)), o 17 (.mv (.t 1)), o 18 (.bin .neq (.t 16) (.t 17))])
     (.cond (.t 18) (.seq (.reg [o 4 (.mv (.c (.int .i64 (-1))))])
      (.ret)) (.skip)))
     (.seq (.reg [o 19 (.mv (.t 1)), o 20 (.bin .add (.t 19) (.c (.int .i64 1))), o 1 (.mv (.t 20))])
     (.seq (.seq (.reg [o 21 (.mv (.t 0)), o 22 (.mv (.t 5)), o 23 (.iaddr 11 (.t 21) (.t 22)), o 24 (.faddr 1 (.t 23)), o 25 (.load none (.t 24)), o 26 (.mv (.t 1)), o 27 (.callF 86 [(.t 26)]), o 28 (.bin .neq (.t 25) (.t 27))])
     (.cond (.t 28) (.seq (.reg [o 4 (.mv (.c (.int .i64 (-1))))])
      (.ret)) (.skip)))
     (.seq (.reg [o 29 (.mv (.t 1)), o 30 (.bin .add (.t 29) (.c (.int .i64 1))), o 1 (.mv (.t 30))])
     (.seq (.reg [o 31 (.mv (.t 0)), o 32 (.mv (.t 5)), o 33 (.iaddr 11 (.t 31) (.t 32)), o 34 (.faddr 2 (.t 33)), o 35 (.load none (.t 34)), o 36 (.mv (.t 1)), o 37 (.call 46 [(.t 35), (.t 36)]), o 1 (.mv (.t 37))])
     (.seq (.seq (.reg [o 38 (.mv (.t 1)), o 39 (.bin .lss (.t 38) (.c (.int .i64 0)))])
     (.cond (.t 39) (.seq (.reg [o 4 (.mv (.c (.int .i64 (-1))))])
      (.ret)) (.skip)))
     (.seq (.seq (.reg [o 40 (.mv (.t 0)), o 41 (.mv (.t 5)), o 42 (.iaddr 11 (.t 40) (.t 41)), o 43 (.faddr 3 (.t 42)), o 44 (.faddr 0 (.t 43)), o 45 (.load none (.t 44)), o 46 (.mv (.t 1)), o 47 (.callF 86 [(.t 46)]), o 48 (.bin .neq (.t 45) (.t 47))])
     (.cond (.t 48) (.seq (.reg [o 4 (.mv (.c (.int .i64 (-1))))])
      (.ret)) (.skip)))
     (.seq (.reg [o 49 (.mv (.t 1)), o 50 (.bin .add (.t 49) (.c (.int .i64 1))), o 1 (.mv (.t 50))])
     (.seq (.reg [o 51 (.mv (.t 0)), o 52 (.mv (.t 5)), o 53 (.iaddr 11 (.t 51) (.t 52)), o 54 (.faddr 3 (.t 53)), o 55 (.faddr 1 (.t 54)), o 56 (.load none (.t 55)), o 57 (.mv (.t 1)), o 58 (.call 91 [(.t 56), (.t 57)]), o 1 (.mv (.t 58))])
     (.seq (.seq (.reg [o 59 (.mv (.t 1)), o 60 (.bin .lss (.t 59) (.c (.int .i64 0)))])
     (.cond (.t 60) (.seq (.reg [o 4 (.mv (.c (.int .i64 (-1))))])
      (.ret)) (.skip)))
     (.seq (.reg [o 61 (.mv (.t 0)), o 62 (.mv (.t 5)), o 63 (.iaddr 11 (.t 61) (.t 62)), o 64 (.faddr 3 (.t 63)), o 65 (.faddr 2 (.t 64)), o 66 (.load none (.t 65)), o 67 (.mv (.t 1)), o 68 (.call 91 [(.t 66), (.t 67)]), o 1 (.mv (.t 68))])
     (.seq (.seq (.reg [o 69 (.mv (.t 1)), o 70 (.bin .lss (.t 69) (.c (.int .i64 0)))])
     (.cond (.t 70) (.seq (.reg [o 4 (.mv (.c (.int .i64 (-1))))])
      (.ret)) (.skip)))
     (.seq (.seq (.reg [o 71 (.mv (.t 0)), o 72 (.mv (.t 5)), o 73 (.iaddr 11 (.t 71) (.t 72)), o 74 (.faddr 6 (.t 73)), o 75 (.load none (.t 74)), o 76 (.mv (.t 1)), o 77 (.callF 86 [(.t 76)]), o 78 (.bin .neq (.t 75) (.t 77))])
     (.cond (.t 78) (.seq (.reg [o 4 (.mv (.c (.int .i64 (-1))))])
      (.ret)) (.skip)))
     (.seq (.reg [o 79 (.mv (.t 1)), o 80 (.bin .add (.t 79) (.c (.int .i64 1))), o 1 (.mv (.t 80))])
     (.seq (.seq (.reg [o 81 (.mv (.t 0)), o 82 (.mv (.t 5)), o 83 (.iaddr 11 (.t 81) (.t 82)), o 84 (.faddr 7 (.t 83)), o 85 (.faddr 0 (.t 84)), o 86 (.load none (.t 85)), o 87 (.mv (.t 1)), o 88 (.bin .neq (.t 86) (.t 87))])
     (.cond (.t 88) (.seq (.reg [o 4 (.mv (.c (.int .i64 (-1))))])
      (.ret)) (.skip)))
     (.seq (.reg [o 89 (.mv (.t 1)), o 90 (.bin .add (.t 89) (.c (.int .i64 1))), o 1 (.mv (.t 90))])
     (.seq (.reg [o 91 (.mv (.t 0)), o 92 (.mv (.t 5)), o 93 (.iaddr 11 (.t 91) (.t 92)), o 94 (.faddr 7 (.t 93)), o 95 (.faddr 1 (.t 94)), o 96 (.load none (.t 95)), o 97 (.mv (.t 1)), o 98 (.call 92 [(.t 96), (.t 97)]), o 1 (.mv (.t 98))])
     (.seq (.seq (.reg [o 99 (.mv (.t 1)), o 100 (.bin .lss (.t 99) (.c (.int .i64 0)))])
     (.cond (.t 100) (.seq (.reg [o 4 (.mv (.c (.int .i64 (-1))))])
      (.ret)) (.skip)))
     (.seq (.seq (.reg [o 101 (.mv (.t 0)), o 102 (.mv (.t 5)), o 103 (.iaddr 11 (.t 101) (.t 102)), o 104 (.faddr 7 (.t 103)), o 105 (.faddr 2 (.t 104)), o 106 (.load none (.t 105)), o 107 (.mv (.t 1)), o 108 (.callF 86 [(.t 107)]), o 109 (.bin .neq (.t 106) (.t 108))])
     (.cond (.t 109) (.seq (.reg [o 4 (.mv (.c (.int .i64 (-1))))])
      (.ret)) (.skip)))
     (.seq (.reg [o 110 (.mv (.t 1)), o 111 (.bin .add (.t 110) (.c (.int .i64 1))), o 1 (.mv (.t 111))])
     (.seq (.seq (.reg [o 112 (.mv (.t 0)), o 113 (.mv (.t 5)), o 114 (.iaddr 11 (.t 112) (.t 113)), o 115 (.faddr 10 (.t 114)), o 116 (.load none (.t 115)), o 117 (.mv (.t 1)), o 118 (.callF 86 [(.t 117)]), o 119 (.bin .neq (.t 116) (.t 118))])
     (.cond (.t 119) (.seq (.reg [o 4 (.mv (.c (.int .i64 (-1))))])
      (.ret)) (.skip)))
     (.reg [o 120 (.mv (.t 1)), o 121 (.bin .add (.t 120) (.c (.int .i64 1))), o 1 (.mv (.t 121))])))))))))))))))))))))))
    (.reg [o 10 (.mv (.t 5)), o 11 (.bin .add (.t 10) (.c (.int .i64 1))), o 5 (.mv (.t 11))]))))))
  (.seq (.reg [o 122 (.mv (.t 1)), o 4 (.mv (.t 122))])
  (.ret))),
  [.tmp 4]⟩
/- loop.example/g03011/laws.szFile -/
def F52 : Fun := ⟨20,
  .seq (.reg [o 2 (.box 3 (.t 0)), o 4 (.mv (.c (.int .i64 0)))])
  (.seq (.reg [o 5 (.mv (.t 1)), o 6 (.faddr 0 (.t 2)), o 7 (.load none (.t 6)), o 8 (.lenS (.t 7)), o 9 (.bin .sub (.t 5) (.t 8)), o 1 (.mv (.t 9))])
  (.seq (.seq (.reg [o 10 (.mv (.t 1)), o 11 (.bin .lss (.t 10) (.c (.int .i64 0)))])
  (.cond (.t 11) (.seq (.reg [o 4 (.mv (.c (.int .i64 (-1))))])
   (.ret)) (.skip)))
  (.seq (.reg [o 12 (.mv (.t 1)), o 13 (.faddr 1 (.t 2)), o 14 (.load none (.t 13)), o 15 (.lenS (.t 14)), o 16 (.bin .sub (.t 12) (.t 15)), o 1 (.mv (.t 16))])
  (.seq (.seq (.reg [o 17 (.mv (.t 1)), o 18 (.bin .lss (.t 17) (.c (.int .i64 0)))])
  (.cond (.t 18) (.seq (.reg [o 4 (.mv (.c (.int .i64 (-1))))])
   (.ret)) (.skip)))
  (.seq (.reg [o 19 (.mv (.t 1)), o 4 (.mv (.t 19))])
  (.ret)))))),
  [.tmp 4]⟩
/- loop.example/g03011/laws.szLine -/
def F53 : Fun := ⟨12,
  .seq (.reg [o 2 (.box 4 (.t 0)), o 4 (.mv (.c (.int .i64 0)))])
  (.seq (.reg [o 5 (.faddr 3 (.t 2)), o 6 (.load none (.t 5)), o 7 (.mv (.t 1)), o 8 (.call 93 [(.t 6), (.t 7)]), o 1 (.mv (.t 8))])
  (.seq (.seq (.reg [o 9 (.mv (.t 1)), o 10 (.bin .lss (.t 9) (.c (.int .i64 0)))])
  (.cond (.t 10) (.seq (.reg [o 4 (.mv (.c (.int .i64 (-1))))])
   (.ret)) (.skip)))
  (.seq (.reg [o 11 (.mv (.t 1)), o 4 (.mv (.t 11))])
  (.ret)))),
  [.tmp 4]⟩
/- loop.example/g03011/laws.szSession -/
def F54 : Fun := ⟨20,
  .seq (.reg [o 2 (.box 4 (.t 0)), o 4 (.mv (.c (.int .i64 0)))])
  (.seq (.reg [o 5 (.mv (.t 1)), o 6 (.faddr 0 (.t 2)), o 7 (.load none (.t 6)), o 8 (.lenS (.t 7)), o 9 (.bin .sub (.t 5) (.t 8)), o 1 (.mv (.t 9))])
  (.seq (.seq (.reg [o 10 (.mv (.t 1)), o 11 (.bin .lss (.t 10) (.c (.int .i64 0)))])
  (.cond (.t 11) (.seq (.reg [o 4 (.mv (.c (.int .i64 (-1))))])
   (.ret)) (.skip)))
  (.seq (.reg [o 12 (.mv (.t 1)), o 13 (.faddr 1 (.t 2)), o 14 (.load none (.t 13)), o 15 (.lenS (.t 14)), o 16 (.bin .sub (.t 12) (.t 15)), o 1 (.mv (.t 16))])
  (.seq (.seq (.reg [o 17 (.mv (.t 1)), o 18 (.bin .lss (.t 17) (.c (.int .i64 0)))])
  (.cond (.t 18) (.seq (.reg [o 4 (.mv (.c (.int .i64 (-1))))])
   (.ret)) (.skip)))
  (.seq (.reg [o 19 (.mv (.t 1)), o 4 (.mv (.t 19))])
  (.ret)))))),
  [.tmp 4]⟩
/- loop.example/g03011/laws.szJob -/
def F55 : Fun := ⟨19,
  .seq (.reg [o 2 (.box 5 (.t 0)), o 4 (.mv (.c (.int .i64 0)))])
  (.seq (.reg [o 5 (.faddr 1 (.t 2)), o 6 (.load (some 3) (.t 5)), o 7 (.mv (.t 1)), o 8 (.call 94 [(.t 6), (.t 7)]), o 1 (.mv (.t 8))])
  (.seq (.seq (.reg [o 9 (.mv (.t 1)), o 10 (.bin .lss (.t 9) (.c (.int .i64 0)))])
  (.cond (.t 10) (.seq (.reg [o 4 (.mv (.c (.int .i64 (-1))))])
   (.ret)) (.skip)))
  (.seq (.reg [o 11 (.mv (.t 1)), o 12 (.faddr 4 (.t 2)), o 13 (.load none (.t 12)), o 14 (.lenS (.t 13)), o 15 (.bin .sub (.t 11) (.t 14)), o 1 (.mv (.t 15))])
  (.seq (.seq (.reg [o 16 (.mv (.t 1)), o 17 (.bin .lss (.t 16) (.c (.int .i64 0)))])
  (.cond (.t 17) (.seq (.reg [o 4 (.mv (.c (.int .i64 (-1))))])
   (.ret)) (.skip)))
  (.seq (.reg [o 18 (.mv (.t 1)), o 4 (.mv (.t 18))])
  (.ret)))))),
  [.tmp 4]⟩
/- loop.example/g03011/laws.szWorker -/
def F56 : Fun := ⟨25,
  .seq (.reg [o 2 (.box 9 (.t 0)), o 4 (.mv (.c (.int .i64 0)))])
  (.seq (.reg [o 5 (.faddr 1 (.t 2)), o 6 (.load (some 5) (.t 5)), o 7 (.mv (.t 1)), o 8 (.call 55 [(.t 6), (.t 7)]), o 1 (.mv (.t 8))])
  (.seq (.seq (.reg [o 9 (.mv (.t 1)), o 10 (.bin .lss (.t 9) (.c (.int .i64 0)))])
  (.cond (.t 10) (.seq (.reg [o 4 (.mv (.c (.int .i64 (-1))))])
   (.ret)) (.skip)))
  (.seq (.reg [o 11 (.mv (.t 1)), o 12 (.faddr 6 (.t 2)), o 13 (.load none (.t 12)), o 14 (.lenS (.t 13)), o 15 (.bin .sub (.t 11) (.t 14)), o 1 (.mv (.t 15))])
  (.seq (.seq (.reg [o 16 (.mv (.t 1)), o 17 (.bin .lss (.t 16) (.c (.int .i64 0)))])
  (.cond (.t 17) (.seq (.reg [o 4 (.mv (.c (.int .i64 (-1))))])
   (.ret)) (.skip)))
  (.seq (.reg [o 18 (.faddr 7 (.t 2)), o 19 (.load none (.t 18)), o 20 (.mv (.t 1)), o 21 (.call 11 [(.t 19), (.t 20)]), o 1 (.mv (.t 21))])
  (.seq (.seq (.reg [o 22 (.mv (.t 1)), o 23 (.bin .lss (.t 22) (.c (.int .i64 0)))])
  (.cond (.t 23) (.seq (.reg [o 4 (.mv (.c (.int .i64 (-1))))])
   (.ret)) (.skip)))
  (.seq (.reg [o 24 (.mv (.t 1)), o 4 (.mv (.t 24))])
  (.ret)))))))),
  [.tmp 4]⟩
/- loop.example/g03011/laws.szAnswer -/
def F57 : Fun := ⟨45,
  .seq (.reg [o 2 (.box 11 (.t 0)), o 4 (.mv (.c (.int .i64 0)))])
  (.seq (.reg [o 5 (.mv (.t 1)), o 6 (.faddr 1 (.t 2)), o 7 (.load none (.t 6)), o 8 (.lenS (.t 7)), o 9 (.bin .sub (.t 5) (.t 8)), o 1 (.mv (.t 9))])
  (.seq (.seq (.reg [o 10 (.mv (.t 1)), o 11 (.bin .lss (.t 10) (.c (.int .i64 0)))])
  (.cond (.t 11) (.seq (.reg [o 4 (.mv (.c (.int .i64 (-1))))])
   (.ret)) (.skip)))
  (.seq (.reg [o 12 (.faddr 2 (.t 2)), o 13 (.load none (.t 12)), o 14 (.mv (.t 1)), o 15 (.call 11 [(.t 13), (.t 14)]), o 1 (.mv (.t 15))])
  (.seq (.seq (.reg [o 16 (.mv (.t 1)), o 17 (.bin .lss (.t 16) (.c (.int .i64 0)))])
  (.cond (.t 17) (.seq (.reg [o 4 (.mv (.c (.int .i64 (-1))))])
   (.ret)) (.skip)))
  (.seq (.reg [o 18 (.faddr 3 (.t 2)), o 19 (.load (some 3) (.t 18)), o 20 (.mv (.t 1)), o 21 (.call 94 [(.t 19), (.t 20)]), o 1 (.mv (.t 21))])
  (.seq (.seq (.reg [o 22 (.mv (.t 1)), o 23 (.bin .lss (.t 22) (.c (.int .i64 0)))])
  (.cond (.t 23) (.seq (.reg [o 4 (.mv (.c (.int .i64 (-1))))])
   (.ret)) (.skip)))
  (.seq (.reg [o 24 (.mv (.t 1)), o 25 (.faddr 6 (.t 2)), o 26 (.load none (.t 25)), o 27 (.lenS (.t 26)), o 28 (.bin .sub (.t 24) (.t 27)), o 1 (.mv (.t 28))])
  (.seq (.seq (.reg [o 29 (.mv (.t 1)), o 30 (.bin .lss (.t 29) (.c (.int .i64 0)))])
  (.cond (.t 30) (.seq (.reg [o 4 (.mv (.c (.int .i64 (-1))))])
   (.ret)) (.skip)))
  (.seq (.reg [o 31 (.faddr 7 (.t 2)), o 32 (.load (some 3) (.t 31)), o 33 (.mv (.t 1)), o 34 (.call 95 [(.t 32), (.t 33)]), o 1 (.mv (.t 34))])
  (.seq (.seq (.reg [o 35 (.mv (.t 1)), o 36 (.bin .lss (.t 35) (.c (.int .i64 0)))])
  (.cond (.t 36) (.seq (.reg [o 4 (.mv (.c (.int .i64 (-1))))])
   (.ret)) (.skip)))
  (.seq (.reg [o 37 (.mv (.t 1)), o 38 (.faddr 10 (.t 2)), o 39 (.load none (.t 38)), o 40 (.lenS (.t 39)), o 41 (.bin .sub (.t 37) (.t 40)), o 1 (.mv (.t 41))])
  (.seq (.seq (.reg [o 42 (.mv (.t 1)), o 43 (.bin .lss (.t 42) (.c (.int .i64 0)))])
  (.cond (.t 43) (.seq (.reg [o 4 (.mv (.c (.int .i64 (-1))))])
   (.ret)) (.skip)))
  (.seq (.reg [o 44 (.mv (.t 1)), o 4 (.mv (.t 44))])
  (.ret)))))))))))))),
  [.tmp 4]⟩
/- loop.example/g03011/spec.l34Copy -/
def F58 : Fun := ⟨30,
  .seq (.reg [o 2 (.mv (.c .nsl))])
  (.seq (.reg [o 6 (.bslice 4 [(.int .i64 0), (.int .i64 0), (.int .i64 0), .nsl] 0 []), o 3 (.mv (.t 6))])
  (.seq (.seq (.reg [o 4 (.mv (.c (.int .i64 0)))])
  (.block 0 (.loop (.seq (.seq (.reg [o 7 (.mv (.t 4)), o 8 (.mv (.t 0)), o 9 (.lenL (.t 8)), o 10 (.bin .lss (.t 7) (.t 9))])
    (.cond (.t 10) (.skip) (.exit 0)))
    (.seq (.block 1 (.seq (.reg [o 13 (.mv (.t 0)), o 14 (.mv (.t 4)), o 15 (.iaddr 4 (.t 13) (.t 14)), o 16 (.load (some 4) (.t 15)), o 5 (.new 4 [(.int .i64 0), (.int .i64 0), (.int .i64 0), .nsl]), st (.store 4 (.t 5) (.t 16))])
     (.seq (.reg [o 17 (.bslice 1 [(.int .i64 0)] 0 []), o 18 (.mv (.t 0)), o 19 (.mv (.t 4)), o 20 (.iaddr 4 (.t 18) (.t 19)), o 21 (.faddr 3 (.t 20)), o 22 (.load none (.t 21)), o 23 (.append 1 8 (.t 17) (.t 22)), o 24 (.faddr 3 (.t 5)), st (.store 1 (.t 24) (.t 23))])
     (.reg [o 25 (.mv (.t 3)), o 26 (.load (some 4) (.t 5)), o 27 (.bslice 4 [(.int .i64 0), (.int .i64 0), (.int .i64 0), .nsl] 1 [(0, (.t 26))]), o 28 (.append 4 48 (.t 25) (.t 27)), o 3 (.mv (.t 28))]))))
    (.reg [o 11 (.mv (.t 4)), o 12 (.bin .add (.t 11) (.c (.int .i64 1))), o 4 (.mv (.t 12))]))))))
  (.seq (.reg [o 29 (.mv (.t 3)), o 2 (.mv (.t 29))])
  (.ret)))),
  [.tmp 2]⟩
/- loop.example/g03011/spec.l39Job -/
def F59 : Fun := ⟨8,
  .seq (.reg [o 1 (.box 5 (.t 0)), o 2 (.new 5 [(.int .i64 0), (.str []), .nsl, .nsl, (.str [])])])
  (.seq (.reg [o 3 (.faddr 1 (.t 1)), o 4 (.load (some 3) (.t 3)), o 5 (.call 96 [(.t 4)]), o 6 (.faddr 1 (.t 1)), st (.store 3 (.t 6) (.t 5))])
  (.seq (.reg [o 7 (.load (some 5) (.t 1)), st (.store 5 (.t 2) (.t 7))])
  (.ret))),
  [.cell 2 (some 5)]⟩
/- loop.example/g03011/spec.l39Worker -/
def F60 : Fun := ⟨13,
  .seq (.reg [o 1 (.box 9 (.t 0)), o 2 (.new 9 [(.int .i64 0), (.int .i64 0), (.str []), .nsl, .nsl, (.str []), (.str []), .nsl, (.int .i64 0)])])
  (.seq (.reg [o 3 (.faddr 1 (.t 1)), o 4 (.load (some 5) (.t 3)), o 5 (.call 59 [(.t 4)]), o 6 (.faddr 1 (.t 1)), st (.store 5 (.t 6) (.t 5))])
  (.seq (.reg [o 7 (.bslice 3 [(.str []), (.str []), (.int .i64 0)] 0 []), o 8 (.faddr 7 (.t 1)), o 9 (.load none (.t 8)), o 10 (.append 3 40 (.t 7) (.t 9)), o 11 (.faddr 7 (.t 1)), st (.store 1 (.t 11) (.t 10))])
  (.seq (.reg [o 12 (.load (some 9) (.t 1)), st (.store 9 (.t 2) (.t 12))])
  (.ret)))),
  [.cell 2 (some 9)]⟩
/- loop.example/g03011/spec.l39Answer -/
def F61 : Fun := ⟨20,
  .seq (.reg [o 1 (.box 11 (.t 0)), o 2 (.new 11 [(.int .i64 0), (.str []), .nsl, (.str []), .nsl, .nsl, (.str []), (.int .i64 0), .nsl, (.str []), (.str [])])])
  (.seq (.reg [o 3 (.bslice 3 [(.str []), (.str []), (.int .i64 0)] 0 []), o 4 (.faddr 2 (.t 1)), o 5 (.load none (.t 4)), o 6 (.append 3 40 (.t 3) (.t 5)), o 7 (.faddr 2 (.t 1)), st (.store 1 (.t 7) (.t 6))])
  (.seq (.reg [o 8 (.faddr 3 (.t 1)), o 9 (.load (some 3) (.t 8)), o 10 (.call 96 [(.t 9)]), o 11 (.faddr 3 (.t 1)), st (.store 3 (.t 11) (.t 10))])
  (.seq (.reg [o 12 (.bslice 2 [(.str []), (.str [])] 0 []), o 13 (.faddr 7 (.t 1)), o 14 (.faddr 1 (.t 13)), o 15 (.load none (.t 14)), o 16 (.append 2 32 (.t 12) (.t 15)), o 17 (.faddr 7 (.t 1)), o 18 (.faddr 1 (.t 17)), st (.store 1 (.t 18) (.t 16))])
  (.seq (.reg [o 19 (.load (some 11) (.t 1)), st (.store 11 (.t 2) (.t 19))])
  (.ret))))),
  [.cell 2 (some 11)]⟩
/- loop.example/g03011/spec.NormalPath -/
def F62 : Fun := ⟨41,
  .seq (.reg [o 2 (.mv (.c (.str []))), o 3 (.mv (.c (.bool false)))])
  (.seq (.seq (.reg [o 8 (.mv (.t 0)), o 9 (.lenS (.t 8)), o 10 (.bin .gtr (.t 9) (.c (.int .i64 400)))])
  (.cond (.t 10) (.seq (.reg [o 2 (.mv (.c (.str []))), o 3 (.mv (.c (.bool false)))])
   (.ret)) (.skip)))
  (.seq (.reg [o 12 (.mv (.t 0)), o 13 (.call 97 [(.t 12)]), o 11 (.mv (.t 13)), o 14 (.extract (.t 11) 0), o 15 (.extract (.t 11) 1), o 4 (.mv (.t 14)), o 5 (.mv (.t 15))])
  (.seq (.reg [o 6 (.mv (.c (.str [])))])
  (.seq (.seq (.reg [o 7 (.mv (.c (.int .i64 0)))])
  (.block 0 (.loop (.seq (.seq (.reg [o 16 (.mv (.t 7)), o 17 (.mv (.t 4)), o 18 (.lenL (.t 17)), o 19 (.bin .lss (.t 16) (.t 18))])
    (.cond (.t 19) (.skip) (.exit 0)))
    (.seq (.block 1 (.seq (.seq (.reg [o 22 (.mv (.t 7)), o 23 (.bin .gtr (.t 22) (.c (.int .i64 0)))])
     (.cond (.t 23) (.reg [o 24 (.mv (.t 6)), o 25 (.bin .add (.t 24) (.c (.str [47]))), o 6 (.mv (.t 25))]) (.skip)))
     (.reg [o 26 (.mv (.t 6)), o 27 (.mv (.t 4)), o 28 (.mv (.t 7)), o 29 (.iaddr 1 (.t 27) (.t 28)), o 30 (.load none (.t 29)), o 31 (.bin .add (.t 26) (.t 30)), o 6 (.mv (.t 31))])))
    (.reg [o 20 (.mv (.t 7)), o 21 (.bin .add (.t 20) (.c (.int .i64 1))), o 7 (.mv (.t 21))]))))))
  (.seq (.seq (.reg [o 32 (.mv (.t 5)), o 33 (.un .not (.t 32)), o 34 (.mv (.t 33)), og 35 (.mv (.t 6)) 34 false, og 36 (.lenS (.t 35)) 34 false, og 37 (.call 18 [(.t 36), (.c (.int .i64 1)), (.c (.int .i64 60))]) 34 false, og 38 (.un .not (.t 37)) 34 false, o 39 (.pick (.t 34) (.c (.bool true)) (.t 38))])
  (.cond (.t 39) (.seq (.reg [o 2 (.mv (.c (.str []))), o 3 (.mv (.c (.bool false)))])
   (.ret)) (.skip)))
  (.seq (.reg [o 40 (.mv (.t 6)), o 2 (.mv (.t 40)), o 3 (.mv (.c (.bool true)))])
  (.ret))))))),
  [.tmp 2, .tmp 3]⟩
/- loop.example/g03011/spec.IsSite -/
def F63 : Fun := ⟨49,
  .seq (.reg [o 2 (.mv (.c (.bool false)))])
  (.seq (.seq (.reg [o 3 (.mv (.c (.int .i64 0)))])
  (.block 0 (.loop (.seq (.seq (.reg [o 4 (.mv (.t 3)), o 5 (.mv (.t 0)), o 6 (.lenL (.t 5)), o 7 (.bin .lss (.t 4) (.t 6))])
    (.cond (.t 7) (.skip) (.exit 0)))
    (.seq (.block 1 (.seq (.reg [o 10 (.mv (.t 0)), o 11 (.mv (.t 3)), o 12 (.iaddr 3 (.t 10) (.t 11)), o 13 (.faddr 0 (.t 12)), o 14 (.load none (.t 13)), o 15 (.call 98 [(.t 14)]), o 16 (.un .not (.t 15)), o 17 (.mv (.t 16)), og 18 (.mv (.t 0)) 17 false, og 19 (.mv (.t 0)) 17 false, og 20 (.mv (.t 3)) 17 false, og 21 (.iaddr 3 (.t 19) (.t 20)) 17 false, og 22 (.faddr 0 (.t 21)) 17 false, og 23 (.load none (.t 22)) 17 false, og 24 (.call 20 [(.t 18), (.t 23)]) 17 false, og 25 (.mv (.t 3)) 17 false, og 26 (.bin .neq (.t 24) (.t 25)) 17 false, o 27 (.pick (.t 17) (.c (.bool true)) (.t 26)), o 28 (.mv (.t 27)), og 29 (.mv (.t 0)) 28 false, og 30 (.mv (.t 3)) 28 false, og 31 (.iaddr 3 (.t 29) (.t 30)) 28 false, og 32 (.faddr 1 (.t 31)) 28 false, og 33 (.load none (.t 32)) 28 false, og 34 (.lenS (.t 33)) 28 false, og 35 (.bin .gtr (.t 34) (.c (.int .i64 4000))) 28 false, o 36 (.pick (.t 28) (.c (.bool true)) (.t 35)), o 37 (.mv (.t 36)), og 38 (.mv (.t 0)) 37 false, og 39 (.mv (.t 3)) 37 false, og 40 (.iaddr 3 (.t 38) (.t 39)) 37 false, og 41 (.faddr 2 (.t 40)) 37 false, og 42 (.load none (.t 41)) 37 false, og 43 (.call 18 [(.t 42), (.c (.int .i64 1)), (.c (.int .i64 1000000000))]) 37 false, og 44 (.un .not (.t 43)) 37 false, o 45 (.pick (.t 37) (.c (.bool true)) (.t 44))])
     (.cond (.t 45) (.seq (.reg [o 2 (.mv (.c (.bool false)))])
      (.ret)) (.skip))))
    (.reg [o 8 (.mv (.t 3)), o 9 (.bin .add (.t 8) (.c (.int .i64 1))), o 3 (.mv (.t 9))]))))))
  (.seq (.reg [o 46 (.mv (.t 0)), o 47 (.lenL (.t 46)), o 48 (.bin .leq (.t 47) (.c (.int .i64 8))), o 2 (.mv (.t 48))])
  (.ret))),
  [.tmp 2]⟩
/- loop.example/g03011/laws.toFile -/
def F64 : Fun := ⟨14,
  .seq (.reg [o 1 (.box 3 (.t 0)), o 2 (.new 3 [(.str []), (.str []), (.int .i64 0)])])
  (.seq (.reg [o 3 (.new 3 [(.str []), (.str []), (.int .i64 0)])])
  (.seq (.reg [o 4 (.faddr 0 (.t 1)), o 5 (.load none (.t 4)), o 6 (.faddr 0 (.t 3)), st (.store 1 (.t 6) (.t 5))])
  (.seq (.reg [o 7 (.faddr 1 (.t 1)), o 8 (.load none (.t 7)), o 9 (.faddr 1 (.t 3)), st (.store 1 (.t 9) (.t 8))])
  (.seq (.reg [o 10 (.faddr 2 (.t 1)), o 11 (.load none (.t 10)), o 12 (.faddr 2 (.t 3)), st (.store 1 (.t 12) (.t 11))])
  (.seq (.reg [o 13 (.load (some 3) (.t 3)), st (.store 3 (.t 2) (.t 13))])
  (.ret)))))),
  [.cell 2 (some 3)]⟩
/- loop.example/g03011/laws.toLine -/
def F65 : Fun := ⟨18,
  .seq (.reg [o 1 (.box 4 (.t 0)), o 2 (.new 4 [(.int .i64 0), (.int .i64 0), (.int .i64 0), .nsl])])
  (.seq (.reg [o 3 (.new 4 [(.int .i64 0), (.int .i64 0), (.int .i64 0), .nsl])])
  (.seq (.reg [o 4 (.faddr 0 (.t 1)), o 5 (.load none (.t 4)), o 6 (.faddr 0 (.t 3)), st (.store 1 (.t 6) (.t 5))])
  (.seq (.reg [o 7 (.faddr 1 (.t 1)), o 8 (.load none (.t 7)), o 9 (.faddr 1 (.t 3)), st (.store 1 (.t 9) (.t 8))])
  (.seq (.reg [o 10 (.faddr 2 (.t 1)), o 11 (.load none (.t 10)), o 12 (.faddr 2 (.t 3)), st (.store 1 (.t 12) (.t 11))])
  (.seq (.reg [o 13 (.faddr 3 (.t 1)), o 14 (.load none (.t 13)), o 15 (.call 99 [(.t 14)]), o 16 (.faddr 3 (.t 3)), st (.store 1 (.t 16) (.t 15))])
  (.seq (.reg [o 17 (.load (some 4) (.t 3)), st (.store 4 (.t 2) (.t 17))])
  (.ret))))))),
  [.cell 2 (some 4)]⟩
/- loop.example/g03011/laws.toSession -/
def F66 : Fun := ⟨17,
  .seq (.reg [o 1 (.box 4 (.t 0)), o 2 (.new 4 [(.str []), (.str []), (.int .i64 0), (.int .i64 0)])])
  (.seq (.reg [o 3 (.new 4 [(.str []), (.str []), (.int .i64 0), (.int .i64 0)])])
  (.seq (.reg [o 4 (.faddr 0 (.t 1)), o 5 (.load none (.t 4)), o 6 (.faddr 0 (.t 3)), st (.store 1 (.t 6) (.t 5))])
  (.seq (.reg [o 7 (.faddr 1 (.t 1)), o 8 (.load none (.t 7)), o 9 (.faddr 1 (.t 3)), st (.store 1 (.t 9) (.t 8))])
  (.seq (.reg [o 10 (.faddr 2 (.t 1)), o 11 (.load none (.t 10)), o 12 (.faddr 2 (.t 3)), st (.store 1 (.t 12) (.t 11))])
  (.seq (.reg [o 13 (.faddr 3 (.t 1)), o 14 (.load none (.t 13)), o 15 (.faddr 3 (.t 3)), st (.store 1 (.t 15) (.t 14))])
  (.seq (.reg [o 16 (.load (some 4) (.t 3)), st (.store 4 (.t 2) (.t 16))])
  (.ret))))))),
  [.cell 2 (some 4)]⟩
/- loop.example/g03011/laws.toJob -/
def F67 : Fun := ⟨15,
  .seq (.reg [o 1 (.box 5 (.t 0)), o 2 (.new 5 [(.int .i64 0), (.str []), .nsl, .nsl, (.str [])])])
  (.seq (.reg [o 3 (.new 5 [(.int .i64 0), (.str []), .nsl, .nsl, (.str [])])])
  (.seq (.reg [o 4 (.faddr 0 (.t 1)), o 5 (.load none (.t 4)), o 6 (.faddr 0 (.t 3)), st (.store 1 (.t 6) (.t 5))])
  (.seq (.reg [o 7 (.faddr 1 (.t 1)), o 8 (.load (some 3) (.t 7)), o 9 (.call 100 [(.t 8)]), o 10 (.faddr 1 (.t 3)), st (.store 3 (.t 10) (.t 9))])
  (.seq (.reg [o 11 (.faddr 4 (.t 1)), o 12 (.load none (.t 11)), o 13 (.faddr 4 (.t 3)), st (.store 1 (.t 13) (.t 12))])
  (.seq (.reg [o 14 (.load (some 5) (.t 3)), st (.store 5 (.t 2) (.t 14))])
  (.ret)))))),
  [.cell 2 (some 5)]⟩
/- loop.example/g03011/laws.toWorker -/
def F68 : Fun := ⟨22,
  .seq (.reg [o 1 (.box 9 (.t 0)), o 2 (.new 9 [(.int .i64 0), (.int .i64 0), (.str []), .nsl, .nsl, (.str []), (.str []), .nsl, (.int .i64 0)])])
  (.seq (.reg [o 3 (.new 9 [(.int .i64 0), (.int .i64 0), (.str []), .nsl, .nsl, (.str []), (.str []), .nsl, (.int .i64 0)])])
  (.seq (.reg [o 4 (.faddr 0 (.t 1)), o 5 (.load none (.t 4)), o 6 (.faddr 0 (.t 3)), st (.store 1 (.t 6) (.t 5))])
  (.seq (.reg [o 7 (.faddr 1 (.t 1)), o 8 (.load (some 5) (.t 7)), o 9 (.call 67 [(.t 8)]), o 10 (.faddr 1 (.t 3)), st (.store 5 (.t 10) (.t 9))])
  (.seq (.reg [o 11 (.faddr 6 (.t 1)), o 12 (.load none (.t 11)), o 13 (.faddr 6 (.t 3)), st (.store 1 (.t 13) (.t 12))])
  (.seq (.reg [o 14 (.faddr 7 (.t 1)), o 15 (.load none (.t 14)), o 16 (.call 22 [(.t 15)]), o 17 (.faddr 7 (.t 3)), st (.store 1 (.t 17) (.t 16))])
  (.seq (.reg [o 18 (.faddr 8 (.t 1)), o 19 (.load none (.t 18)), o 20 (.faddr 8 (.t 3)), st (.store 1 (.t 20) (.t 19))])
  (.seq (.reg [o 21 (.load (some 9) (.t 3)), st (.store 9 (.t 2) (.t 21))])
  (.ret)))))))),
  [.cell 2 (some 9)]⟩
/- loop.example/g03011/laws.toAnswer -/
def F69 : Fun := ⟨29,
  .seq (.reg [o 1 (.box 11 (.t 0)), o 2 (.new 11 [(.int .i64 0), (.str []), .nsl, (.str []), .nsl, .nsl, (.str []), (.int .i64 0), .nsl, (.str []), (.str [])])])
  (.seq (.reg [o 3 (.new 11 [(.int .i64 0), (.str []), .nsl, (.str []), .nsl, .nsl, (.str []), (.int .i64 0), .nsl, (.str []), (.str [])])])
  (.seq (.reg [o 4 (.faddr 0 (.t 1)), o 5 (.load none (.t 4)), o 6 (.faddr 0 (.t 3)), st (.store 1 (.t 6) (.t 5))])
  (.seq (.reg [o 7 (.faddr 1 (.t 1)), o 8 (.load none (.t 7)), o 9 (.faddr 1 (.t 3)), st (.store 1 (.t 9) (.t 8))])
  (.seq (.reg [o 10 (.faddr 2 (.t 1)), o 11 (.load none (.t 10)), o 12 (.call 22 [(.t 11)]), o 13 (.faddr 2 (.t 3)), st (.store 1 (.t 13) (.t 12))])
  (.seq (.reg [o 14 (.faddr 3 (.t 1)), o 15 (.load (some 3) (.t 14)), o 16 (.call 100 [(.t 15)]), o 17 (.faddr 3 (.t 3)), st (.store 3 (.t 17) (.t 16))])
  (.seq (.reg [o 18 (.faddr 6 (.t 1)), o 19 (.load none (.t 18)), o 20 (.faddr 6 (.t 3)), st (.store 1 (.t 20) (.t 19))])
  (.seq (.reg [o 21 (.faddr 7 (.t 1)), o 22 (.load (some 3) (.t 21)), o 23 (.call 101 [(.t 22)]), o 24 (.faddr 7 (.t 3)), st (.store 3 (.t 24) (.t 23))])
  (.seq (.reg [o 25 (.faddr 10 (.t 1)), o 26 (.load none (.t 25)), o 27 (.faddr 10 (.t 3)), st (.store 1 (.t 27) (.t 26))])
  (.seq (.reg [o 28 (.load (some 11) (.t 3)), st (.store 11 (.t 2) (.t 28))])
  (.ret)))))))))),
  [.cell 2 (some 11)]⟩
/- slices.Clone[[]loop.example/g03011/impl.File,loop.example/g03011/impl.File] -/
def F70 : Fun := ⟨8,
  .seq (.reg [o 2 (.mv (.c .nsl))])
  (.seq (.seq (.reg [o 3 (.mv (.t 0)), o 4 (.isnl false (.t 3))])
  (.cond (.t 4) (.seq (.reg [o 2 (.mv (.c .nsl))])
   (.ret)) (.skip)))
  (.seq (.reg [o 5 (.bslice 3 [(.str []), (.str []), (.int .i64 0)] 0 []), o 6 (.mv (.t 0)), o 7 (.append 3 40 (.t 5) (.t 6)), o 2 (.mv (.t 7))])
  (.ret))),
  [.tmp 2]⟩
/- loop.example/g03011/impl.copyLines -/
def F71 : Fun := ⟨24,
  .seq (.reg [o 2 (.mv (.c .nsl))])
  (.seq (.reg [o 6 (.mv (.t 0)), o 7 (.call 102 [(.t 6)]), o 3 (.mv (.t 7))])
  (.seq (.seq (.reg [o 8 (.mv (.t 0)), o 9 (.lenL (.t 8)), o 10 (.mv (.c (.int .i64 0)))])
  (.block 0 (.loop (.seq (.reg [o 11 (.bin .lss (.t 10) (.t 9))])
    (.seq (.cond (.t 11) (.skip) (.exit 0))
    (.seq (.block 1 (.seq (.reg [o 12 (.mv (.t 10)), o 13 (.iaddr 4 (.t 8) (.t 10)), o 14 (.load (some 4) (.t 13)), o 5 (.new 4 [(.int .i64 0), (.int .i64 0), (.int .i64 0), .nsl]), o 4 (.mv (.t 12)), st (.store 4 (.t 5) (.t 14))])
     (.reg [o 15 (.mv (.t 3)), o 16 (.mv (.t 4)), o 17 (.faddr 3 (.t 5)), o 18 (.load none (.t 17)), o 19 (.call 103 [(.t 18)]), o 20 (.iaddr 4 (.t 15) (.t 16)), o 21 (.faddr 3 (.t 20)), st (.store 1 (.t 21) (.t 19))])))
    (.reg [o 22 (.bin .add (.t 10) (.c (.int .i64 1))), o 10 (.mv (.t 22))])))))))
  (.seq (.reg [o 23 (.mv (.t 3)), o 2 (.mv (.t 23))])
  (.ret)))),
  [.tmp 2]⟩
/- slices.Clone[[]loop.example/g03011/impl.Session,loop.example/g03011/impl.Session] -/
def F72 : Fun := ⟨8,
  .seq (.reg [o 2 (.mv (.c .nsl))])
  (.seq (.seq (.reg [o 3 (.mv (.t 0)), o 4 (.isnl false (.t 3))])
  (.cond (.t 4) (.seq (.reg [o 2 (.mv (.c .nsl))])
   (.ret)) (.skip)))
  (.seq (.reg [o 5 (.bslice 4 [(.str []), (.str []), (.int .i64 0), (.int .i64 0)] 0 []), o 6 (.mv (.t 0)), o 7 (.append 4 48 (.t 5) (.t 6)), o 2 (.mv (.t 7))])
  (.ret))),
  [.tmp 2]⟩
/- loop.example/g03011/impl.copyJob -/
def F73 : Fun := ⟨8,
  .seq (.reg [o 1 (.box 5 (.t 0)), o 2 (.new 5 [(.int .i64 0), (.str []), .nsl, .nsl, (.str [])])])
  (.seq (.reg [o 3 (.faddr 1 (.t 1)), o 4 (.load (some 3) (.t 3)), o 5 (.call 74 [(.t 4)]), o 6 (.faddr 1 (.t 1)), st (.store 3 (.t 6) (.t 5))])
  (.seq (.reg [o 7 (.load (some 5) (.t 1)), st (.store 5 (.t 2) (.t 7))])
  (.ret))),
  [.cell 2 (some 5)]⟩
/- loop.example/g03011/impl.copyRequest -/
def F74 : Fun := ⟨12,
  .seq (.reg [o 1 (.box 3 (.t 0)), o 2 (.new 3 [(.str []), .nsl, .nsl])])
  (.seq (.reg [o 3 (.faddr 0 (.t 1)), o 4 (.load none (.t 3)), o 5 (.faddr 1 (.t 1)), o 6 (.load none (.t 5)), o 8 (.faddr 2 (.t 1)), o 9 (.load none (.t 8)), o 7 (.call 104 [(.t 6)]), st (.chk none (.t 3) (.t 4)), st (.chk none (.t 8) (.t 9)), o 10 (.call 104 [(.t 9)]), st (.chk none (.t 3) (.t 4)), o 11 (.build [(.str []), .nsl, .nsl] [(0, 1, (.t 4)), (1, 1, (.t 7)), (2, 1, (.t 10))]), st (.store 3 (.t 2) (.t 11))])
  (.ret)),
  [.cell 2 (some 3)]⟩
/- slices.Clone[[]loop.example/g03011/impl.Header,loop.example/g03011/impl.Header] -/
def F75 : Fun := ⟨8,
  .seq (.reg [o 2 (.mv (.c .nsl))])
  (.seq (.seq (.reg [o 3 (.mv (.t 0)), o 4 (.isnl false (.t 3))])
  (.cond (.t 4) (.seq (.reg [o 2 (.mv (.c .nsl))])
   (.ret)) (.skip)))
  (.seq (.reg [o 5 (.bslice 2 [(.str []), (.str [])] 0 []), o 6 (.mv (.t 0)), o 7 (.append 2 32 (.t 5) (.t 6)), o 2 (.mv (.t 7))])
  (.ret))),
  [.tmp 2]⟩
/- slices.rotateRight[loop.example/g03011/impl.Job] -/
def F77 : Fun := ⟨10,
  .reg [o 4 (.mv (.t 0)), o 5 (.mv (.t 0)), o 6 (.lenL (.t 5)), o 7 (.mv (.t 1)), o 8 (.bin .sub (.t 6) (.t 7)), o 9 (.call 105 [(.t 4), (.t 8)])],
  []⟩
/- loop.example/g03011/impl.NormalPath -/
def F78 : Fun := ⟨26,
  .seq (.reg [o 2 (.mv (.c (.str []))), o 3 (.mv (.c (.bool false)))])
  (.seq (.seq (.reg [o 7 (.mv (.t 0)), o 8 (.lenS (.t 7)), o 9 (.bin .gtr (.t 8) (.c (.int .i64 400)))])
  (.cond (.t 9) (.seq (.reg [o 2 (.mv (.c (.str []))), o 3 (.mv (.c (.bool false)))])
   (.ret)) (.skip)))
  (.seq (.reg [o 11 (.mv (.t 0)), o 12 (.call 106 [(.t 11)]), o 10 (.mv (.t 12)), o 13 (.extract (.t 10) 0), o 14 (.extract (.t 10) 1), o 4 (.mv (.t 13)), o 5 (.mv (.t 14))])
  (.seq (.reg [o 15 (.mv (.t 4)), o 16 (.call 107 [(.t 15), (.c (.str [47]))]), o 6 (.mv (.t 16))])
  (.seq (.seq (.reg [o 17 (.mv (.t 5)), o 18 (.un .not (.t 17)), o 19 (.mv (.t 18)), og 20 (.mv (.t 6)) 19 false, og 21 (.lenS (.t 20)) 19 false, og 22 (.call 29 [(.t 21), (.c (.int .i64 1)), (.c (.int .i64 60))]) 19 false, og 23 (.un .not (.t 22)) 19 false, o 24 (.pick (.t 19) (.c (.bool true)) (.t 23))])
  (.cond (.t 24) (.seq (.reg [o 2 (.mv (.c (.str []))), o 3 (.mv (.c (.bool false)))])
   (.ret)) (.skip)))
  (.seq (.reg [o 25 (.mv (.t 6)), o 2 (.mv (.t 25)), o 3 (.mv (.c (.bool true)))])
  (.ret)))))),
  [.tmp 2, .tmp 3]⟩
/- loop.example/g03011/impl.IsSite -/
def F79 : Fun := ⟨42,
  .seq (.reg [o 2 (.mv (.c (.bool false)))])
  (.seq (.reg [o 6 (.mkmap), o 3 (.mv (.t 6))])
  (.seq (.seq (.reg [o 7 (.mv (.t 0)), o 8 (.lenL (.t 7)), o 9 (.mv (.c (.int .i64 0)))])
  (.block 0 (.loop (.seq (.reg [o 10 (.bin .lss (.t 9) (.t 8))])
    (.seq (.cond (.t 10) (.skip) (.exit 0))
    (.seq (.block 1 (.seq (.reg [o 11 (.iaddr 3 (.t 7) (.t 9)), o 12 (.load (some 3) (.t 11)), o 5 (.new 3 [(.str []), (.str []), (.int .i64 0)]), st (.store 3 (.t 5) (.t 12))])
     (.seq (.seq (.reg [o 13 (.mv (.t 3)), o 14 (.faddr 0 (.t 5)), o 15 (.load none (.t 14)), o 16 (.lookup 1 (.bool false) false (.t 13) (.t 15)), o 17 (.mv (.t 16)), og 18 (.faddr 0 (.t 5)) 17 false, og 19 (.load none (.t 18)) 17 false, og 20 (.call 108 [(.t 19)]) 17 false, og 21 (.un .not (.t 20)) 17 false, o 22 (.pick (.t 17) (.c (.bool true)) (.t 21)), o 23 (.mv (.t 22)), og 24 (.faddr 1 (.t 5)) 23 false, og 25 (.load none (.t 24)) 23 false, og 26 (.lenS (.t 25)) 23 false, og 27 (.bin .gtr (.t 26) (.c (.int .i64 4000))) 23 false, o 28 (.pick (.t 23) (.c (.bool true)) (.t 27)), o 29 (.mv (.t 28)), og 30 (.faddr 2 (.t 5)) 29 false, og 31 (.load none (.t 30)) 29 false, og 32 (.call 29 [(.t 31), (.c (.int .i64 1)), (.c (.int .i64 1000000000))]) 29 false, og 33 (.un .not (.t 32)) 29 false, o 34 (.pick (.t 29) (.c (.bool true)) (.t 33))])
     (.cond (.t 34) (.seq (.reg [o 2 (.mv (.c (.bool false)))])
      (.ret)) (.skip)))
     (.reg [o 35 (.mv (.t 3)), o 36 (.faddr 0 (.t 5)), o 37 (.load none (.t 36)), st (.mupd 1 (.t 35) (.t 37) (.c (.bool true)))]))))
    (.reg [o 38 (.bin .add (.t 9) (.c (.int .i64 1))), o 9 (.mv (.t 38))])))))))
  (.seq (.reg [o 39 (.mv (.t 0)), o 40 (.lenL (.t 39)), o 41 (.bin .leq (.t 40) (.c (.int .i64 8))), o 2 (.mv (.t 41))])
  (.ret)))),
  [.tmp 2]⟩
/- loop.example/g03011/laws.eqFile -/
def F80 : Fun := ⟨20,
  .seq (.reg [o 2 (.box 3 (.t 0)), o 3 (.box 3 (.t 1)), o 4 (.mv (.c (.bool false)))])
  (.seq (.seq (.reg [o 5 (.faddr 0 (.t 2)), o 6 (.load none (.t 5)), o 7 (.faddr 0 (.t 3)), o 8 (.load none (.t 7)), o 9 (.bin .neq (.t 6) (.t 8))])
  (.cond (.t 9) (.seq (.reg [o 4 (.mv (.c (.bool false)))])
   (.ret)) (.skip)))
  (.seq (.seq (.reg [o 10 (.faddr 1 (.t 2)), o 11 (.load none (.t 10)), o 12 (.faddr 1 (.t 3)), o 13 (.load none (.t 12)), o 14 (.bin .neq (.t 11) (.t 13))])
  (.cond (.t 14) (.seq (.reg [o 4 (.mv (.c (.bool false)))])
   (.ret)) (.skip)))
  (.seq (.seq (.reg [o 15 (.faddr 2 (.t 2)), o 16 (.load none (.t 15)), o 17 (.faddr 2 (.t 3)), o 18 (.load none (.t 17)), o 19 (.bin .neq (.t 16) (.t 18))])
  (.cond (.t 19) (.seq (.reg [o 4 (.mv (.c (.bool false)))])
   (.ret)) (.skip)))
  (.seq (.reg [o 4 (.mv (.c (.bool true)))])
  (.ret))))),
  [.tmp 4]⟩
/- loop.example/g03011/laws.eqLine -/
def F81 : Fun := ⟨26,
  .seq (.reg [o 2 (.box 4 (.t 0)), o 3 (.box 4 (.t 1)), o 4 (.mv (.c (.bool false)))])
  (.seq (.seq (.reg [o 5 (.faddr 0 (.t 2)), o 6 (.load none (.t 5)), o 7 (.faddr 0 (.t 3)), o 8 (.load none (.t 7)), o 9 (.bin .neq (.t 6) (.t 8))])
  (.cond (.t 9) (.seq (.reg [o 4 (.mv (.c (.bool false)))])
   (.ret)) (.skip)))
  (.seq (.seq (.reg [o 10 (.faddr 1 (.t 2)), o 11 (.load none (.t 10)), o 12 (.faddr 1 (.t 3)), o 13 (.load none (.t 12)), o 14 (.bin .neq (.t 11) (.t 13))])
  (.cond (.t 14) (.seq (.reg [o 4 (.mv (.c (.bool false)))])
   (.ret)) (.skip)))
  (.seq (.seq (.reg [o 15 (.faddr 2 (.t 2)), o 16 (.load none (.t 15)), o 17 (.faddr 2 (.t 3)), o 18 (.load none (.t 17)), o 19 (.bin .neq (.t 16) (.t 18))])
  (.cond (.t 19) (.seq (.reg [o 4 (.mv (.c (.bool false)))])
   (.ret)) (.skip)))
  (.seq (.seq (.reg [o 20 (.faddr 3 (.t 2)), o 21 (.load none (.t 20)), o 22 (.faddr 3 (.t 3)), o 23 (.load none (.t 22)), o 24 (.call 109 [(.t 21), (.t 23)]), o 25 (.un .not (.t 24))])
  (.cond (.t 25) (.seq (.reg [o 4 (.mv (.c (.bool false)))])
   (.ret)) (.skip)))
  (.seq (.reg [o 4 (.mv (.c (.bool true)))])
  (.ret)))))),
  [.tmp 4]⟩
/- loop.example/g03011/laws.eqSession -/
def F82 : Fun := ⟨25,
  .seq (.reg [o 2 (.box 4 (.t 0)), o 3 (.box 4 (.t 1)), o 4 (.mv (.c (.bool false)))])
  (.seq (.seq (.reg [o 5 (.faddr 0 (.t 2)), o 6 (.load none (.t 5)), o 7 (.faddr 0 (.t 3)), o 8 (.load none (.t 7)), o 9 (.bin .neq (.t 6) (.t 8))])
  (.cond (.t 9) (.seq (.reg [o 4 (.mv (.c (.bool false)))])
   (.ret)) (.skip)))
  (.seq (.seq (.reg [o 10 (.faddr 1 (.t 2)), o 11 (.load none (.t 10)), o 12 (.faddr 1 (.t 3)), o 13 (.load none (.t 12)), o 14 (.bin .neq (.t 11) (.t 13))])
  (.cond (.t 14) (.seq (.reg [o 4 (.mv (.c (.bool false)))])
   (.ret)) (.skip)))
  (.seq (.seq (.reg [o 15 (.faddr 2 (.t 2)), o 16 (.load none (.t 15)), o 17 (.faddr 2 (.t 3)), o 18 (.load none (.t 17)), o 19 (.bin .neq (.t 16) (.t 18))])
  (.cond (.t 19) (.seq (.reg [o 4 (.mv (.c (.bool false)))])
   (.ret)) (.skip)))
  (.seq (.seq (.reg [o 20 (.faddr 3 (.t 2)), o 21 (.load none (.t 20)), o 22 (.faddr 3 (.t 3)), o 23 (.load none (.t 22)), o 24 (.bin .neq (.t 21) (.t 23))])
  (.cond (.t 24) (.seq (.reg [o 4 (.mv (.c (.bool false)))])
   (.ret)) (.skip)))
  (.seq (.reg [o 4 (.mv (.c (.bool true)))])
  (.ret)))))),
  [.tmp 4]⟩
/- loop.example/g03011/laws.eqJob -/
def F83 : Fun := ⟨21,
  .seq (.reg [o 2 (.box 5 (.t 0)), o 3 (.box 5 (.t 1)), o 4 (.mv (.c (.bool false)))])
  (.seq (.seq (.reg [o 5 (.faddr 0 (.t 2)), o 6 (.load none (.t 5)), o 7 (.faddr 0 (.t 3)), o 8 (.load none (.t 7)), o 9 (.bin .neq (.t 6) (.t 8))])
  (.cond (.t 9) (.seq (.reg [o 4 (.mv (.c (.bool false)))])
   (.ret)) (.skip)))
  (.seq (.seq (.reg [o 10 (.faddr 1 (.t 2)), o 11 (.load (some 3) (.t 10)), o 12 (.faddr 1 (.t 3)), o 13 (.load (some 3) (.t 12)), o 14 (.call 110 [(.t 11), (.t 13)]), o 15 (.un .not (.t 14))])
  (.cond (.t 15) (.seq (.reg [o 4 (.mv (.c (.bool false)))])
   (.ret)) (.skip)))
  (.seq (.seq (.reg [o 16 (.faddr 4 (.t 2)), o 17 (.load none (.t 16)), o 18 (.faddr 4 (.t 3)), o 19 (.load none (.t 18)), o 20 (.bin .neq (.t 17) (.t 19))])
  (.cond (.t 20) (.seq (.reg [o 4 (.mv (.c (.bool false)))])
   (.ret)) (.skip)))
  (.seq (.reg [o 4 (.mv (.c (.bool true)))])
  (.ret))))),
  [.tmp 4]⟩
/- loop.example/g03011/laws.eqWorker -/
def F84 : Fun := ⟨32,
  .seq (.reg [o 2 (.box 9 (.t 0)), o 3 (.box 9 (.t 1)), o 4 (.mv (.c (.bool false)))])
  (.seq (.seq (.reg [o 5 (.faddr 0 (.t 2)), o 6 (.load none (.t 5)), o 7 (.faddr 0 (.t 3)), o 8 (.load none (.t 7)), o 9 (.bin .neq (.t 6) (.t 8))])
  (.cond (.t 9) (.seq (.reg [o 4 (.mv (.c (.bool false)))])
   (.ret)) (.skip)))
  (.seq (.seq (.reg [o 10 (.faddr 1 (.t 2)), o 11 (.load (some 5) (.t 10)), o 12 (.faddr 1 (.t 3)), o 13 (.load (some 5) (.t 12)), o 14 (.call 83 [(.t 11), (.t 13)]), o 15 (.un .not (.t 14))])
  (.cond (.t 15) (.seq (.reg [o 4 (.mv (.c (.bool false)))])
   (.ret)) (.skip)))
  (.seq (.seq (.reg [o 16 (.faddr 6 (.t 2)), o 17 (.load none (.t 16)), o 18 (.faddr 6 (.t 3)), o 19 (.load none (.t 18)), o 20 (.bin .neq (.t 17) (.t 19))])
  (.cond (.t 20) (.seq (.reg [o 4 (.mv (.c (.bool false)))])
   (.ret)) (.skip)))
  (.seq (.seq (.reg [o 21 (.faddr 7 (.t 2)), o 22 (.load none (.t 21)), o 23 (.faddr 7 (.t 3)), o 24 (.load none (.t 23)), o 25 (.call 34 [(.t 22), (.t 24)]), o 26 (.un .not (.t 25))])
  (.cond (.t 26) (.seq (.reg [o 4 (.mv (.c (.bool false)))])
   (.ret)) (.skip)))
  (.seq (.seq (.reg [o 27 (.faddr 8 (.t 2)), o 28 (.load none (.t 27)), o 29 (.faddr 8 (.t 3)), o 30 (.load none (.t 29)), o 31 (.bin .neq (.t 28) (.t 30))])
  (.cond (.t 31) (.seq (.reg [o 4 (.mv (.c (.bool false)))])
   (.ret)) (.skip)))
  (.seq (.reg [o 4 (.mv (.c (.bool true)))])
  (.ret))))))),
  [.tmp 4]⟩
/- loop.example/g03011/laws.eqAnswer -/
def F85 : Fun := ⟨43,
  .seq (.reg [o 2 (.box 11 (.t 0)), o 3 (.box 11 (.t 1)), o 4 (.mv (.c (.bool false)))])
  (.seq (.seq (.reg [o 5 (.faddr 0 (.t 2)), o 6 (.load none (.t 5)), o 7 (.faddr 0 (.t 3)), o 8 (.load none (.t 7)), o 9 (.bin .neq (.t 6) (.t 8))])
  (.cond (.t 9) (.seq (.reg [o 4 (.mv (.c (.bool false)))])
   (.ret)) (.skip)))
  (.seq (.seq (.reg [o 10 (.faddr 1 (.t 2)), o 11 (.load none (.t 10)), o 12 (.faddr 1 (.t 3)), o 13 (.load none (.t 12)), o 14 (.bin .neq (.t 11) (.t 13))])
  (.cond (.t 14) (.seq (.reg [o 4 (.mv (.c (.bool false)))])
   (.ret)) (.skip)))
  (.seq (.seq (.reg [o 15 (.faddr 2 (.t 2)), o 16 (.load none (.t 15)), o 17 (.faddr 2 (.t 3)), o 18 (.load none (.t 17)), o 19 (.call 34 [(.t 16), (.t 18)]), o 20 (.un .not (.t 19))])
  (.cond (.t 20) (.seq (.reg [o 4 (.mv (.c (.bool false)))])
   (.ret)) (.skip)))
  (.seq (.seq (.reg [o 21 (.faddr 3 (.t 2)), o 22 (.load (some 3) (.t 21)), o 23 (.faddr 3 (.t 3)), o 24 (.load (some 3) (.t 23)), o 25 (.call 110 [(.t 22), (.t 24)]), o 26 (.un .not (.t 25))])
  (.cond (.t 26) (.seq (.reg [o 4 (.mv (.c (.bool false)))])
   (.ret)) (.skip)))
  (.seq (.seq (.reg [o 27 (.faddr 6 (.t 2)), o 28 (.load none (.t 27)), o 29 (.faddr 6 (.t 3)), o 30 (.load none (.t 29)), o 31 (.bin .neq (.t 28) (.t 30))])
  (.cond (.t 31) (.seq (.reg [o 4 (.mv (.c (.bool false)))])
   (.ret)) (.skip)))
  (.seq (.seq (.reg [o 32 (.faddr 7 (.t 2)), o 33 (.load (some 3) (.t 32)), o 34 (.faddr 7 (.t 3)), o 35 (.load (some 3) (.t 34)), o 36 (.call 111 [(.t 33), (.t 35)]), o 37 (.un .not (.t 36))])
  (.cond (.t 37) (.seq (.reg [o 4 (.mv (.c (.bool false)))])
   (.ret)) (.skip)))
  (.seq (.seq (.reg [o 38 (.faddr 10 (.t 2)), o 39 (.load none (.t 38)), o 40 (.faddr 10 (.t 3)), o 41 (.load none (.t 40)), o 42 (.bin .neq (.t 39) (.t 41))])
  (.cond (.t 42) (.seq (.reg [o 4 (.mv (.c (.bool false)))])
   (.ret)) (.skip)))
  (.seq (.reg [o 4 (.mv (.c (.bool true)))])
  (.ret))))))))),
  [.tmp 4]⟩
/- loop.example/g03011/laws.markText -/
def F86 : Fun := ⟨20,
  .seq (.reg [o 2 (.mv (.c (.str [])))])
  (.seq (.seq (.reg [o 4 (.mv (.t 0)), o 5 (.bin .leq (.t 4) (.c (.int .i64 0)))])
  (.cond (.t 5) (.seq (.reg [o 2 (.mv (.c (.str [109, 48])))])
   (.ret)) (.skip)))
  (.seq (.reg [o 3 (.mv (.c (.str [])))])
  (.seq (.block 0 (.loop (.seq (.seq (.reg [o 6 (.mv (.t 0)), o 7 (.bin .gtr (.t 6) (.c (.int .i64 0)))])
    (.cond (.t 7) (.skip) (.exit 0)))
    (.block 1 (.seq (.reg [o 8 (.mv (.t 0)), o 9 (.bin .rem (.t 8) (.c (.int .i64 10))), o 10 (.bin .add (.c (.int .i64 48)) (.t 9)), o 11 (.toInt .u8 (.t 10)), o 12 (.bslice 1 [(.int .u8 0)] 1 [(0, (.t 11))]), o 13 (.toStr (.t 12)), o 14 (.mv (.t 3)), o 15 (.bin .add (.t 13) (.t 14)), o 3 (.mv (.t 15))])
     (.reg [o 16 (.mv (.t 0)), o 17 (.bin .quo (.t 16) (.c (.int .i64 10))), o 0 (.mv (.t 17))]))))))
  (.seq (.reg [o 18 (.mv (.t 3)), o 19 (.bin .add (.c (.str [109])) (.t 18)), o 2 (.mv (.t 19))])
  (.ret))))),
  [.tmp 2]⟩
/- loop.example/g03011/laws.markIntS -/
def F87 : Fun := ⟨19,
  .seq (.reg [o 4 (.mv (.c (.int .i64 0)))])
  (.seq (.seq (.reg [o 5 (.mv (.c (.int .i64 0)))])
  (.block 0 (.loop (.seq (.seq (.reg [o 6 (.mv (.t 5)), o 7 (.mv (.t 0)), o 8 (.lenL (.t 7)), o 9 (.bin .lss (.t 6) (.t 8))])
    (.cond (.t 9) (.skip) (.exit 0)))
    (.seq (.block 1 (.seq (.reg [o 12 (.mv (.t 0)), o 13 (.mv (.t 5)), o 14 (.mv (.t 1)), o 15 (.iaddr 1 (.t 12) (.t 13)), st (.store 1 (.t 15) (.t 14))])
     (.reg [o 16 (.mv (.t 1)), o 17 (.bin .add (.t 16) (.c (.int .i64 1))), o 1 (.mv (.t 17))])))
    (.reg [o 10 (.mv (.t 5)), o 11 (.bin .add (.t 10) (.c (.int .i64 1))), o 5 (.mv (.t 11))]))))))
  (.seq (.reg [o 18 (.mv (.t 1)), o 4 (.mv (.t 18))])
  (.ret))),
  [.tmp 4]⟩
/- loop.example/g03011/laws.markPairS -/
def F88 : Fun := ⟨29,
  .seq (.reg [o 4 (.mv (.c (.int .i64 0)))])
  (.seq (.seq (.reg [o 5 (.mv (.c (.int .i64 0)))])
  (.block 0 (.loop (.seq (.seq (.reg [o 6 (.mv (.t 5)), o 7 (.mv (.t 0)), o 8 (.lenL (.t 7)), o 9 (.bin .lss (.t 6) (.t 8))])
    (.cond (.t 9) (.skip) (.exit 0)))
    (.seq (.block 1 (.seq (.reg [o 12 (.mv (.t 0)), o 13 (.mv (.t 5)), o 14 (.mv (.t 1)), o 15 (.call 86 [(.t 14)]), o 16 (.iaddr 2 (.t 12) (.t 13)), o 17 (.faddr 0 (.t 16)), st (.store 1 (.t 17) (.t 15))])
     (.seq (.reg [o 18 (.mv (.t 1)), o 19 (.bin .add (.t 18) (.c (.int .i64 1))), o 1 (.mv (.t 19))])
     (.seq (.reg [o 20 (.mv (.t 0)), o 21 (.mv (.t 5)), o 22 (.mv (.t 1)), o 23 (.call 86 [(.t 22)]), o 24 (.iaddr 2 (.t 20) (.t 21)), o 25 (.faddr 1 (.t 24)), st (.store 1 (.t 25) (.t 23))])
     (.reg [o 26 (.mv (.t 1)), o 27 (.bin .add (.t 26) (.c (.int .i64 1))), o 1 (.mv (.t 27))])))))
    (.reg [o 10 (.mv (.t 5)), o 11 (.bin .add (.t 10) (.c (.int .i64 1))), o 5 (.mv (.t 11))]))))))
  (.seq (.reg [o 28 (.mv (.t 1)), o 4 (.mv (.t 28))])
  (.ret))),
  [.tmp 4]⟩
/- loop.example/g03011/laws.markHeaderS -/
def F89 : Fun := ⟨29,
  .seq (.reg [o 4 (.mv (.c (.int .i64 0)))])
  (.seq (.seq (.reg [o 5 (.mv (.c (.int .i64 0)))])
  (.block 0 (.loop (.seq (.seq (.reg [o 6 (.mv (.t 5)), o 7 (.mv (.t 0)), o 8 (.lenL (.t 7)), o 9 (.bin .lss (.t 6) (.t 8))])
    (.cond (.t 9) (.skip) (.exit 0)))
    (.seq (.block 1 (.seq (.reg [o 12 (.mv (.t 0)), o 13 (.mv (.t 5)), o 14 (.mv (.t 1)), o 15 (.call 86 [(.t 14)]), o 16 (.iaddr 2 (.t 12) (.t 13)), o 17 (.faddr 0 (.t 16)), st (.store 1 (.t 17) (.t 15))])
     (.seq (.reg [o 18 (.mv (.t 1)), o 19 (.bin .add (.t 18) (.c (.int .i64 1))), o 1 (.mv (.t 19))])
     (.seq (.reg [o 20 (.mv (.t 0)), o 21 (.mv (.t 5)), o 22 (.mv (.t 1)), o 23 (.call 86 [(.t 22)]), o 24 (.iaddr 2 (.t 20) (.t 21)), o 25 (.faddr 1 (.t 24)), st (.store 1 (.t 25) (.t 23))])
     (.reg [o 26 (.mv (.t 1)), o 27 (.bin .add (.t 26) (.c (.int .i64 1))), o 1 (.mv (.t 27))])))))
    (.reg [o 10 (.mv (.t 5)), o 11 (.bin .add (.t 10) (.c (.int .i64 1))), o 5 (.mv (.t 11))]))))))
  (.seq (.reg [o 28 (.mv (.t 1)), o 4 (.mv (.t 28))])
  (.ret))),
  [.tmp 4]⟩
/- loop.example/g03011/laws.heldIntS -/
def F90 : Fun := ⟨21,
  .seq (.reg [o 4 (.mv (.c (.int .i64 0)))])
  (.seq (.seq (.reg [o 5 (.mv (.c (.int .i64 0)))])
  (.block 0 (.loop (.seq (.seq (.reg [o 6 (.mv (.t 5)), o 7 (.mv (.t 0)), o 8 (.lenL (.t 7)), o 9 (.bin .lss (.t 6) (.t 8))])
    (.cond (.t 9) (.skip) (.exit 0)))
    (.seq (.block 1 (.seq (.seq (.reg [o 12 (.mv (.t 0)), o 13 (.mv (.t 5)), o 14 (.iaddr 1 (.t 12) (.t 13)), o 15 (.load none (.t 14)), o 16 (.mv (.t 1)), o 17 (.bin .neq (.t 15) (.t 16))])
     (.cond (.t 17) (.seq (.reg [o 4 (.mv (.c (.int .i64 (-1))))])
      (.ret)) (.skip)))
     (.reg [o 18 (.mv (.t 1)), o 19 (.bin .add (.t 18) (.c (.int .i64 1))), o 1 (.mv (.t 19))])))
    (.reg [o 10 (.mv (.t 5)), o 11 (.bin .add (.t 10) (.c (.int .i64 1))), o 5 (.mv (.t 11))]))))))
  (.seq (.reg [o 20 (.mv (.t 1)), o 4 (.mv (.t 20))])
  (.ret))),
  [.tmp 4]⟩
/- loop.example/g03011/laws.heldPairS -/
def F91 : Fun := ⟨33,
  .seq (.reg [o 4 (.mv (.c (.int .i64 0)))])
  (.seq (.seq (.reg [o 5 (.mv (.c (.int .i64 0)))])
  (.block 0 (.loop (.seq (.seq (.reg [o 6 (.mv (.t 5)), o 7 (.mv (.t 0)), o 8 (.lenL (.t 7)), o 9 (.bin .lss (.t 6) (.t 8))])
    (.cond (.t 9) (.skip) (.exit 0)))
    (.seq (.block 1 (.seq (.seq (.reg [o 12 (.mv (.t 0)), o 13 (.mv (.t 5)), o 14 (.iaddr 2 (.t 12) (.t 13)), o 15 (.faddr 0 (.t 14)), o 16 (.load none (.t 15)), o 17 (.mv (.t 1)), o 18 (.callF 86 [(.t 17)]), o 19 (.bin .neq (.t 16) (.t 18))])
     (.cond (.t 19) (.seq (.reg [o 4 (.mv (.c (.int .i64 (-1))))])
      (.ret)) (.skip)))
     (.seq (.reg [o 20 (.mv (.t 1)), o 21 (.bin .add (.t 20) (.c (.int .i64 1))), o 1 (.mv (.t 21))])
     (.seq (.seq (.reg [o 22 (.mv (.t 0)), o 23 (.mv (.t 5)), o 24 (.iaddr 2 (.t 22) (.t 23)), o 25 (.faddr 1 (.t 24)), o 26 (.load none (.t 25)), o 27 (.mv (.t 1)), o 28 (.callF 86 [(.t 27)]), o 29 (.bin .neq (.t 26) (.t 28))])
     (.cond (.t 29) (.seq (.reg [o 4 (.mv (.c (.int .i64 (-1))))])
      (.ret)) (.skip)))
     (.reg [o 30 (.mv (.t 1)), o 31 (.bin .add (.t 30) (.c (.int .i64 1))), o 1 (.mv (.t 31))])))))
    (.reg [o 10 (.mv (.t 5)), o 11 (.bin .add (.t 10) (.c (.int .i64 1))), o 5 (.mv (.t 11))]))))))
  (.seq (.reg [o 32 (.mv (.t 1)), o 4 (.mv (.t 32))])
  (.ret))),
  [.tmp 4]⟩
/- loop.example/g03011/laws.heldHeaderS -/
def F92 : Fun := ⟨33,
  .seq (.reg [o 4 (.mv (.c (.int .i64 0)))])
  (.seq (.seq (.reg [o 5 (.mv (.c (.int .i64 0)))])
  (.block 0 (.loop (.seq (.seq (.reg [o 6 (.mv (.t 5)), o 7 (.mv (.t 0)), o 8 (.lenL (.t 7)), o 9 (.bin .lss (.t 6) (.t 8))])
    (.cond (.t 9) (.skip) (.exit 0)))
    (.seq (.block 1 (.seq (.seq (.reg [o 12 (.mv (.t 0)), o 13 (.mv (.t 5)), o 14 (.iaddr 2 (.t 12) (.t 13)), o 15 (.faddr 0 (.t 14)), o 16 (.load none (.t 15)), o 17 (.mv (.t 1)), o 18 (.callF 86 [(.t 17)]), o 19 (.bin .neq (.t 16) (.t 18))])
     (.cond (.t 19) (.seq (.reg [o 4 (.mv (.c (.int .i64 (-1))))])
      (.ret)) (.skip)))
     (.seq (.reg [o 20 (.mv (.t 1)), o 21 (.bin .add (.t 20) (.c (.int .i64 1))), o 1 (.mv (.t 21))])
     (.seq (.seq (.reg [o 22 (.mv (.t 0)), o 23 (.mv (.t 5)), o 24 (.iaddr 2 (.t 22) (.t 23)), o 25 (.faddr 1 (.t 24)), o 26 (.load none (.t 25)), o 27 (.mv (.t 1)), o 28 (.callF 86 [(.t 27)]), o 29 (.bin .neq (.t 26) (.t 28))])
     (.cond (.t 29) (.seq (.reg [o 4 (.mv (.c (.int .i64 (-1))))])
      (.ret)) (.skip)))
     (.reg [o 30 (.mv (.t 1)), o 31 (.bin .add (.t 30) (.c (.int .i64 1))), o 1 (.mv (.t 31))])))))
    (.reg [o 10 (.mv (.t 5)), o 11 (.bin .add (.t 10) (.c (.int .i64 1))), o 5 (.mv (.t 11))]))))))
  (.seq (.reg [o 32 (.mv (.t 1)), o 4 (.mv (.t 32))])
  (.ret))),
  [.tmp 4]⟩
/- loop.example/g03011/laws.szIntS -/
def F93 : Fun := ⟨12,
  .seq (.reg [o 4 (.mv (.c (.int .i64 0)))])
  (.seq (.reg [o 5 (.mv (.t 1)), o 6 (.mv (.t 0)), o 7 (.lenL (.t 6)), o 8 (.bin .sub (.t 5) (.t 7)), o 1 (.mv (.t 8))])
  (.seq (.seq (.reg [o 9 (.mv (.t 1)), o 10 (.bin .lss (.t 9) (.c (.int .i64 0)))])
  (.cond (.t 10) (.seq (.reg [o 4 (.mv (.c (.int .i64 (-1))))])
   (.ret)) (.skip)))
  (.seq (.reg [o 11 (.mv (.t 1)), o 4 (.mv (.t 11))])
  (.ret)))),
  [.tmp 4]⟩
/- loop.example/g03011/laws.szRequest -/
def F94 : Fun := ⟨25,
  .seq (.reg [o 2 (.box 3 (.t 0)), o 4 (.mv (.c (.int .i64 0)))])
  (.seq (.reg [o 5 (.mv (.t 1)), o 6 (.faddr 0 (.t 2)), o 7 (.load none (.t 6)), o 8 (.lenS (.t 7)), o 9 (.bin .sub (.t 5) (.t 8)), o 1 (.mv (.t 9))])
  (.seq (.seq (.reg [o 10 (.mv (.t 1)), o 11 (.bin .lss (.t 10) (.c (.int .i64 0)))])
  (.cond (.t 11) (.seq (.reg [o 4 (.mv (.c (.int .i64 (-1))))])
   (.ret)) (.skip)))
  (.seq (.reg [o 12 (.faddr 1 (.t 2)), o 13 (.load none (.t 12)), o 14 (.mv (.t 1)), o 15 (.call 112 [(.t 13), (.t 14)]), o 1 (.mv (.t 15))])
  (.seq (.seq (.reg [o 16 (.mv (.t 1)), o 17 (.bin .lss (.t 16) (.c (.int .i64 0)))])
  (.cond (.t 17) (.seq (.reg [o 4 (.mv (.c (.int .i64 (-1))))])
   (.ret)) (.skip)))
  (.seq (.reg [o 18 (.faddr 2 (.t 2)), o 19 (.load none (.t 18)), o 20 (.mv (.t 1)), o 21 (.call 112 [(.t 19), (.t 20)]), o 1 (.mv (.t 21))])
  (.seq (.seq (.reg [o 22 (.mv (.t 1)), o 23 (.bin .lss (.t 22) (.c (.int .i64 0)))])
  (.cond (.t 23) (.seq (.reg [o 4 (.mv (.c (.int .i64 (-1))))])
   (.ret)) (.skip)))
  (.seq (.reg [o 24 (.mv (.t 1)), o 4 (.mv (.t 24))])
  (.ret)))))))),
  [.tmp 4]⟩
/- loop.example/g03011/laws.szResponse -/
def F95 : Fun := ⟨19,
  .seq (.reg [o 2 (.box 3 (.t 0)), o 4 (.mv (.c (.int .i64 0)))])
  (.seq (.reg [o 5 (.faddr 1 (.t 2)), o 6 (.load none (.t 5)), o 7 (.mv (.t 1)), o 8 (.call 113 [(.t 6), (.t 7)]), o 1 (.mv (.t 8))])
  (.seq (.seq (.reg [o 9 (.mv (.t 1)), o 10 (.bin .lss (.t 9) (.c (.int .i64 0)))])
  (.cond (.t 10) (.seq (.reg [o 4 (.mv (.c (.int .i64 (-1))))])
   (.ret)) (.skip)))
  (.seq (.reg [o 11 (.mv (.t 1)), o 12 (.faddr 2 (.t 2)), o 13 (.load none (.t 12)), o 14 (.lenS (.t 13)), o 15 (.bin .sub (.t 11) (.t 14)), o 1 (.mv (.t 15))])
  (.seq (.seq (.reg [o 16 (.mv (.t 1)), o 17 (.bin .lss (.t 16) (.c (.int .i64 0)))])
  (.cond (.t 17) (.seq (.reg [o 4 (.mv (.c (.int .i64 (-1))))])
   (.ret)) (.skip)))
  (.seq (.reg [o 18 (.mv (.t 1)), o 4 (.mv (.t 18))])
  (.ret)))))),
  [.tmp 4]⟩
/- loop.example/g03011/spec.l39Request -/
def F96 : Fun := ⟨14,
  .seq (.reg [o 1 (.box 3 (.t 0)), o 2 (.new 3 [(.str []), .nsl, .nsl])])
  (.seq (.reg [o 3 (.bslice 2 [(.str []), (.str [])] 0 []), o 4 (.faddr 1 (.t 1)), o 5 (.load none (.t 4)), o 6 (.append 2 32 (.t 3) (.t 5)), o 7 (.faddr 1 (.t 1)), st (.store 1 (.t 7) (.t 6))])
  (.seq (.reg [o 8 (.bslice 2 [(.str []), (.str [])] 0 []), o 9 (.faddr 2 (.t 1)), o 10 (.load none (.t 9)), o 11 (.append 2 32 (.t 8) (.t 10)), o 12 (.faddr 2 (.t 1)), st (.store 1 (.t 12) (.t 11))])
  (.seq (.reg [o 13 (.load (some 3) (.t 1)), st (.store 3 (.t 2) (.t 13))])
  (.ret)))),
  [.cell 2 (some 3)]⟩
/- loop.example/g03011/spec.SplitPath -/
def F97 : Fun := ⟨60,
  .seq (.reg [o 2 (.mv (.c .nsl)), o 3 (.mv (.c (.bool false)))])
  (.seq (.reg [o 8 (.bslice 1 [(.str [])] 0 []), o 4 (.mv (.t 8))])
  (.seq (.reg [o 5 (.mv (.c (.int .i64 0)))])
  (.seq (.seq (.reg [o 6 (.mv (.c (.int .i64 0)))])
  (.block 0 (.loop (.seq (.seq (.reg [o 9 (.mv (.t 6)), o 10 (.mv (.t 0)), o 11 (.lenS (.t 10)), o 12 (.bin .leq (.t 9) (.t 11))])
    (.cond (.t 12) (.skip) (.exit 0)))
    (.seq (.block 1 (.seq (.seq (.reg [o 15 (.mv (.t 6)), o 16 (.mv (.t 0)), o 17 (.lenS (.t 16)), o 18 (.bin .lss (.t 15) (.t 17)), o 19 (.mv (.t 18)), og 20 (.mv (.t 0)) 19 true, og 21 (.mv (.t 6)) 19 true, og 22 (.index (.t 20) (.t 21)) 19 true, og 23 (.bin .neq (.t 22) (.c (.int .u8 47))) 19 true, o 24 (.pick (.t 19) (.t 23) (.c (.bool false)))])
     (.cond (.t 24) (.exit 1) (.skip)))
     (.seq (.reg [o 25 (.mv (.t 0)), o 26 (.mv (.t 5)), o 27 (.mv (.t 6)), o 28 (.sliceS (.t 25) (some (.t 26)) (some (.t 27))), o 7 (.mv (.t 28))])
     (.seq (.reg [o 29 (.mv (.t 6)), o 30 (.bin .add (.t 29) (.c (.int .i64 1))), o 5 (.mv (.t 30))])
     (.block 2 (.seq (.reg [o 36 (.mv (.t 7)), o 37 (.bin .eql (.t 36) (.c (.str []))), o 38 (.mv (.t 37)), og 39 (.mv (.t 7)) 38 false, og 40 (.bin .eql (.t 39) (.c (.str [46]))) 38 false, o 41 (.pick (.t 38) (.c (.bool true)) (.t 40)), o 35 (.mv (.t 41))])
      (.cond (.t 35) (.skip) (.seq (.reg [o 43 (.mv (.t 7)), o 44 (.bin .eql (.t 43) (.c (.str [46, 46]))), o 42 (.mv (.t 44))])
       (.cond (.t 42) (.seq (.seq (.reg [o 45 (.mv (.t 4)), o 46 (.lenL (.t 45)), o 47 (.bin .eql (.t 46) (.c (.int .i64 0)))])
        (.cond (.t 47) (.seq (.reg [o 48 (.bslice 1 [(.str [])] 0 []), o 2 (.mv (.t 48)), o 3 (.mv (.c (.bool false)))])
         (.ret)) (.skip)))
        (.reg [o 49 (.mv (.t 4)), o 50 (.mv (.t 4)), o 51 (.lenL (.t 50)), o 52 (.bin .sub (.t 51) (.c (.int .i64 1))), o 53 (.slice 1 (.t 49) none (some (.t 52))), o 4 (.mv (.t 53))])) (.seq (.reg [o 55 (.mv (.t 7)), o 56 (.call 114 [(.t 55)]), o 57 (.un .not (.t 56)), o 54 (.mv (.t 57))])
        (.cond (.t 54) (.seq (.reg [o 58 (.bslice 1 [(.str [])] 0 []), o 2 (.mv (.t 58)), o 3 (.mv (.c (.bool false)))])
         (.ret)) (.reg [o 31 (.mv (.t 4)), o 32 (.mv (.t 7)), o 33 (.bslice 1 [(.str [])] 1 [(0, (.t 32))]), o 34 (.append 1 16 (.t 31) (.t 33)), o 4 (.mv (.t 34))]))))))))))))
    (.reg [o 13 (.mv (.t 6)), o 14 (.bin .add (.t 13) (.c (.int .i64 1))), o 6 (.mv (.t 14))]))))))
  (.seq (.reg [o 59 (.mv (.t 4)), o 2 (.mv (.t 59)), o 3 (.mv (.c (.bool true)))])
  (.ret))))),
  [.tmp 2, .tmp 3]⟩
/- loop.example/g03011/spec.IsNormal -/
def F98 : Fun := ⟨16,
  .seq (.reg [o 2 (.mv (.c (.bool false)))])
  (.seq (.reg [o 6 (.mv (.t 0)), o 7 (.call 62 [(.t 6)]), o 5 (.mv (.t 7)), o 8 (.extract (.t 5) 0), o 9 (.extract (.t 5) 1), o 3 (.mv (.t 8)), o 4 (.mv (.t 9))])
  (.seq (.reg [o 10 (.mv (.t 4)), o 11 (.mv (.t 10)), og 12 (.mv (.t 3)) 11 true, og 13 (.mv (.t 0)) 11 true, og 14 (.bin .eql (.t 12) (.t 13)) 11 true, o 15 (.pick (.t 11) (.t 14) (.c (.bool false))), o 2 (.mv (.t 15))])
  (.ret))),
  [.tmp 2]⟩
/- loop.example/g03011/laws.toIntS -/
def F99 : Fun := ⟨22,
  .seq (.reg [o 2 (.mv (.c .nsl))])
  (.seq (.reg [o 5 (.mv (.t 0)), o 6 (.lenL (.t 5)), o 7 (.mkslice 1 [(.int .i64 0)] 8 (.t 6) (.t 6)), o 3 (.mv (.t 7))])
  (.seq (.seq (.reg [o 4 (.mv (.c (.int .i64 0)))])
  (.block 0 (.loop (.seq (.seq (.reg [o 8 (.mv (.t 4)), o 9 (.mv (.t 0)), o 10 (.lenL (.t 9)), o 11 (.bin .lss (.t 8) (.t 10))])
    (.cond (.t 11) (.skip) (.exit 0)))
    (.seq (.block 1 (.reg [o 14 (.mv (.t 3)), o 15 (.mv (.t 4)), o 16 (.mv (.t 0)), o 17 (.mv (.t 4)), o 18 (.iaddr 1 (.t 16) (.t 17)), o 19 (.load none (.t 18)), o 20 (.iaddr 1 (.t 14) (.t 15)), st (.store 1 (.t 20) (.t 19))]))
    (.reg [o 12 (.mv (.t 4)), o 13 (.bin .add (.t 12) (.c (.int .i64 1))), o 4 (.mv (.t 13))]))))))
  (.seq (.reg [o 21 (.mv (.t 3)), o 2 (.mv (.t 21))])
  (.ret)))),
  [.tmp 2]⟩
/- loop.example/g03011/laws.toRequest -/
def F100 : Fun := ⟨16,
  .seq (.reg [o 1 (.box 3 (.t 0)), o 2 (.new 3 [(.str []), .nsl, .nsl])])
  (.seq (.reg [o 3 (.new 3 [(.str []), .nsl, .nsl])])
  (.seq (.reg [o 4 (.faddr 0 (.t 1)), o 5 (.load none (.t 4)), o 6 (.faddr 0 (.t 3)), st (.store 1 (.t 6) (.t 5))])
  (.seq (.reg [o 7 (.faddr 1 (.t 1)), o 8 (.load none (.t 7)), o 9 (.call 115 [(.t 8)]), o 10 (.faddr 1 (.t 3)), st (.store 1 (.t 10) (.t 9))])
  (.seq (.reg [o 11 (.faddr 2 (.t 1)), o 12 (.load none (.t 11)), o 13 (.call 115 [(.t 12)]), o 14 (.faddr 2 (.t 3)), st (.store 1 (.t 14) (.t 13))])
  (.seq (.reg [o 15 (.load (some 3) (.t 3)), st (.store 3 (.t 2) (.t 15))])
  (.ret)))))),
  [.cell 2 (some 3)]⟩
/- loop.example/g03011/laws.toResponse -/
def F101 : Fun := ⟨15,
  .seq (.reg [o 1 (.box 3 (.t 0)), o 2 (.new 3 [(.int .i64 0), .nsl, (.str [])])])
  (.seq (.reg [o 3 (.new 3 [(.int .i64 0), .nsl, (.str [])])])
  (.seq (.reg [o 4 (.faddr 0 (.t 1)), o 5 (.load none (.t 4)), o 6 (.faddr 0 (.t 3)), st (.store 1 (.t 6) (.t 5))])
  (.seq (.reg [o 7 (.faddr 1 (.t 1)), o 8 (.load none (.t 7)), o 9 (.call 116 [(.t 8)]), o 10 (.faddr 1 (.t 3)), st (.store 1 (.t 10) (.t 9))])
  (.seq (.reg [o 11 (.faddr 2 (.t 1)), o 12 (.load none (.t 11)), o 13 (.faddr 2 (.t 3)), st (.store 1 (.t 13) (.t 12))])
  (.seq (.reg [o 14 (.load (some 3) (.t 3)), st (.store 3 (.t 2) (.t 14))])
  (.ret)))))),
  [.cell 2 (some 3)]⟩
/- slices.Clone[[]loop.example/g03011/impl.Line,loop.example/g03011/impl.Line] -/
def F102 : Fun := ⟨8,
  .seq (.reg [o 2 (.mv (.c .nsl))])
  (.seq (.seq (.reg [o 3 (.mv (.t 0)), o 4 (.isnl false (.t 3))])
  (.cond (.t 4) (.seq (.reg [o 2 (.mv (.c .nsl))])
   (.ret)) (.skip)))
  (.seq (.reg [o 5 (.bslice 4 [(.int .i64 0), (.int .i64 0), (.int .i64 0), .nsl] 0 []), o 6 (.mv (.t 0)), o 7 (.append 4 48 (.t 5) (.t 6)), o 2 (.mv (.t 7))])
  (.ret))),
  [.tmp 2]⟩
/- slices.Clone[[]int,int] -/
def F103 : Fun := ⟨8,
  .seq (.reg [o 2 (.mv (.c .nsl))])
  (.seq (.seq (.reg [o 3 (.mv (.t 0)), o 4 (.isnl false (.t 3))])
  (.cond (.t 4) (.seq (.reg [o 2 (.mv (.c .nsl))])
   (.ret)) (.skip)))
  (.seq (.reg [o 5 (.bslice 1 [(.int .i64 0)] 0 []), o 6 (.mv (.t 0)), o 7 (.append 1 8 (.t 5) (.t 6)), o 2 (.mv (.t 7))])
  (.ret))),
  [.tmp 2]⟩
/- slices.Clone[[]loop.example/g03011/impl.Pair,loop.example/g03011/impl.Pair] -/
def F104 : Fun := ⟨8,
  .seq (.reg [o 2 (.mv (.c .nsl))])
  (.seq (.seq (.reg [o 3 (.mv (.t 0)), o 4 (.isnl false (.t 3))])
  (.cond (.t 4) (.seq (.reg [o 2 (.mv (.c .nsl))])
   (.ret)) (.skip)))
  (.seq (.reg [o 5 (.bslice 2 [(.str []), (.str [])] 0 []), o 6 (.mv (.t 0)), o 7 (.append 2 32 (.t 5) (.t 6)), o 2 (.mv (.t 7))])
  (.ret))),
  [.tmp 2]⟩
/- slices.rotateLeft[loop.example/g03011/impl.Job] -/
def F105 : Fun := ⟨14,
  .seq (.reg [o 4 (.mv (.t 0)), o 5 (.mv (.t 1)), o 6 (.slice 5 (.t 4) none (some (.t 5))), o 7 (.call 117 [(.t 6)])])
  (.seq (.reg [o 8 (.mv (.t 0)), o 9 (.mv (.t 1)), o 10 (.slice 5 (.t 8) (some (.t 9)) none), o 11 (.call 117 [(.t 10)])])
  (.reg [o 12 (.mv (.t 0)), o 13 (.call 117 [(.t 12)])])),
  []⟩
/- loop.example/g03011/impl.SplitPath -/
def F106 : Fun := ⟨43,
  .seq (.reg [o 2 (.mv (.c .nsl)), o 3 (.mv (.c (.bool false)))])
  (.seq (.reg [o 7 (.bslice 1 [(.str [])] 0 []), o 4 (.mv (.t 7))])
  (.seq (.seq (.reg [o 8 (.mv (.t 0)), o 9 (.call 118 [(.t 8), (.c (.str [47]))]), o 10 (.lenL (.t 9)), o 11 (.mv (.c (.int .i64 0)))])
  (.block 0 (.loop (.seq (.reg [o 12 (.bin .lss (.t 11) (.t 10))])
    (.seq (.cond (.t 12) (.skip) (.exit 0))
    (.seq (.block 1 (.seq (.reg [o 13 (.iaddr 1 (.t 9) (.t 11)), o 14 (.load none (.t 13)), o 6 (.mv (.t 14))])
     (.block 2 (.seq (.reg [o 20 (.mv (.t 6)), o 21 (.bin .eql (.t 20) (.c (.str []))), o 22 (.mv (.t 21)), og 23 (.mv (.t 6)) 22 false, og 24 (.bin .eql (.t 23) (.c (.str [46]))) 22 false, o 25 (.pick (.t 22) (.c (.bool true)) (.t 24)), o 19 (.mv (.t 25))])
      (.cond (.t 19) (.skip) (.seq (.reg [o 27 (.mv (.t 6)), o 28 (.bin .eql (.t 27) (.c (.str [46, 46]))), o 26 (.mv (.t 28))])
       (.cond (.t 26) (.seq (.seq (.reg [o 29 (.mv (.t 4)), o 30 (.lenL (.t 29)), o 31 (.bin .eql (.t 30) (.c (.int .i64 0)))])
        (.cond (.t 31) (.seq (.reg [o 2 (.mv (.c .nsl)), o 3 (.mv (.c (.bool false)))])
         (.ret)) (.skip)))
        (.reg [o 32 (.mv (.t 4)), o 33 (.mv (.t 4)), o 34 (.lenL (.t 33)), o 35 (.bin .sub (.t 34) (.c (.int .i64 1))), o 36 (.slice 1 (.t 32) none (some (.t 35))), o 4 (.mv (.t 36))])) (.seq (.reg [o 38 (.mv (.t 6)), o 39 (.call 119 [(.t 38)]), o 40 (.un .not (.t 39)), o 37 (.mv (.t 40))])
        (.cond (.t 37) (.seq (.reg [o 2 (.mv (.c .nsl)), o 3 (.mv (.c (.bool false)))])
         (.ret)) (.reg [o 15 (.mv (.t 4)), o 16 (.mv (.t 6)), o 17 (.bslice 1 [(.str [])] 1 [(0, (.t 16))]), o 18 (.append 1 16 (.t 15) (.t 17)), o 4 (.mv (.t 18))]))))))))))
    (.reg [o 41 (.bin .add (.t 11) (.c (.int .i64 1))), o 11 (.mv (.t 41))])))))))
  (.seq (.reg [o 42 (.mv (.t 4)), o 2 (.mv (.t 42)), o 3 (.mv (.c (.bool true)))])
  (.ret)))),
  [.tmp 2, .tmp 3]⟩
/- loop.example/g03011/impl.IsNormal -/
def F108 : Fun := ⟨16,
  .seq (.reg [o 2 (.mv (.c (.bool false)))])
  (.seq (.reg [o 6 (.mv (.t 0)), o 7 (.call 78 [(.t 6)]), o 5 (.mv (.t 7)), o 8 (.extract (.t 5) 0), o 9 (.extract (.t 5) 1), o 3 (.mv (.t 8)), o 4 (.mv (.t 9))])
  (.seq (.reg [o 10 (.mv (.t 4)), o 11 (.mv (.t 10)), og 12 (.mv (.t 3)) 11 true, og 13 (.mv (.t 0)) 11 true, og 14 (.bin .eql (.t 12) (.t 13)) 11 true, o 15 (.pick (.t 11) (.t 14) (.c (.bool false))), o 2 (.mv (.t 15))])
  (.ret))),
  [.tmp 2]⟩
/- loop.example/g03011/laws.eqIntS -/
def F109 : Fun := ⟨26,
  .seq (.reg [o 4 (.mv (.c (.bool false)))])
  (.seq (.seq (.reg [o 6 (.mv (.t 0)), o 7 (.lenL (.t 6)), o 8 (.mv (.t 1)), o 9 (.lenL (.t 8)), o 10 (.bin .neq (.t 7) (.t 9))])
  (.cond (.t 10) (.seq (.reg [o 4 (.mv (.c (.bool false)))])
   (.ret)) (.skip)))
  (.seq (.seq (.reg [o 5 (.mv (.c (.int .i64 0)))])
  (.block 0 (.loop (.seq (.seq (.reg [o 11 (.mv (.t 5)), o 12 (.mv (.t 0)), o 13 (.lenL (.t 12)), o 14 (.bin .lss (.t 11) (.t 13))])
    (.cond (.t 14) (.skip) (.exit 0)))
    (.seq (.block 1 (.seq (.reg [o 17 (.mv (.t 0)), o 18 (.mv (.t 5)), o 19 (.iaddr 1 (.t 17) (.t 18)), o 20 (.load none (.t 19)), o 21 (.mv (.t 1)), o 22 (.mv (.t 5)), o 23 (.iaddr 1 (.t 21) (.t 22)), o 24 (.load none (.t 23)), o 25 (.bin .neq (.t 20) (.t 24))])
     (.cond (.t 25) (.seq (.reg [o 4 (.mv (.c (.bool false)))])
      (.ret)) (.skip))))
    (.reg [o 15 (.mv (.t 5)), o 16 (.bin .add (.t 15) (.c (.int .i64 1))), o 5 (.mv (.t 16))]))))))
  (.seq (.reg [o 4 (.mv (.c (.bool true)))])
  (.ret)))),
  [.tmp 4]⟩
/- loop.example/g03011/laws.eqRequest -/
def F110 : Fun := ⟨22,
  .seq (.reg [o 2 (.box 3 (.t 0)), o 3 (.box 3 (.t 1)), o 4 (.mv (.c (.bool false)))])
  (.seq (.seq (.reg [o 5 (.faddr 0 (.t 2)), o 6 (.load none (.t 5)), o 7 (.faddr 0 (.t 3)), o 8 (.load none (.t 7)), o 9 (.bin .neq (.t 6) (.t 8))])
  (.cond (.t 9) (.seq (.reg [o 4 (.mv (.c (.bool false)))])
   (.ret)) (.skip)))
  (.seq (.seq (.reg [o 10 (.faddr 1 (.t 2)), o 11 (.load none (.t 10)), o 12 (.faddr 1 (.t 3)), o 13 (.load none (.t 12)), o 14 (.call 123 [(.t 11), (.t 13)]), o 15 (.un .not (.t 14))])
  (.cond (.t 15) (.seq (.reg [o 4 (.mv (.c (.bool false)))])
   (.ret)) (.skip)))
  (.seq (.seq (.reg [o 16 (.faddr 2 (.t 2)), o 17 (.load none (.t 16)), o 18 (.faddr 2 (.t 3)), o 19 (.load none (.t 18)), o 20 (.call 123 [(.t 17), (.t 19)]), o 21 (.un .not (.t 20))])
  (.cond (.t 21) (.seq (.reg [o 4 (.mv (.c (.bool false)))])
   (.ret)) (.skip)))
  (.seq (.reg [o 4 (.mv (.c (.bool true)))])
  (.ret))))),
  [.tmp 4]⟩
/- loop.example/g03011/laws.eqResponse -/
def F111 : Fun := ⟨21,
  .seq (.reg [o 2 (.box 3 (.t 0)), o 3 (.box 3 (.t 1)), o 4 (.mv (.c (.bool false)))])
  (.seq (.seq (.reg [o 5 (.faddr 0 (.t 2)), o 6 (.load none (.t 5)), o 7 (.faddr 0 (.t 3)), o 8 (.load none (.t 7)), o 9 (.bin .neq (.t 6) (.t 8))])
  (.cond (.t 9) (.seq (.reg [o 4 (.mv (.c (.bool false)))])
   (.ret)) (.skip)))
  (.seq (.seq (.reg [o 10 (.faddr 1 (.t 2)), o 11 (.load none (.t 10)), o 12 (.faddr 1 (.t 3)), o 13 (.load none (.t 12)), o 14 (.call 124 [(.t 11), (.t 13)]), o 15 (.un .not (.t 14))])
  (.cond (.t 15) (.seq (.reg [o 4 (.mv (.c (.bool false)))])
   (.ret)) (.skip)))
  (.seq (.seq (.reg [o 16 (.faddr 2 (.t 2)), o 17 (.load none (.t 16)), o 18 (.faddr 2 (.t 3)), o 19 (.load none (.t 18)), o 20 (.bin .neq (.t 17) (.t 19))])
  (.cond (.t 20) (.seq (.reg [o 4 (.mv (.c (.bool false)))])
   (.ret)) (.skip)))
  (.seq (.reg [o 4 (.mv (.c (.bool true)))])
  (.ret))))),
  [.tmp 4]⟩
/- loop.example/g03011/laws.szPairS -/
def F112 : Fun := ⟨27,
  .seq (.reg [o 4 (.mv (.c (.int .i64 0)))])
  (.seq (.reg [o 6 (.mv (.t 1)), o 7 (.mv (.t 0)), o 8 (.lenL (.t 7)), o 9 (.bin .sub (.t 6) (.t 8)), o 1 (.mv (.t 9))])
  (.seq (.seq (.reg [o 10 (.mv (.t 1)), o 11 (.bin .lss (.t 10) (.c (.int .i64 0)))])
  (.cond (.t 11) (.seq (.reg [o 4 (.mv (.c (.int .i64 (-1))))])
   (.ret)) (.skip)))
  (.seq (.seq (.reg [o 5 (.mv (.c (.int .i64 0)))])
  (.block 0 (.loop (.seq (.seq (.reg [o 12 (.mv (.t 5)), o 13 (.mv (.t 0)), o 14 (.lenL (.t 13)), o 15 (.bin .lss (.t 12) (.t 14))])
    (.cond (.t 15) (.skip) (.exit 0)))
    (.seq (.block 1 (.seq (.reg [o 18 (.mv (.t 0)), o 19 (.mv (.t 5)), o 20 (.iaddr 2 (.t 18) (.t 19)), o 21 (.load (some 2) (.t 20)), o 22 (.mv (.t 1)), o 23 (.call 125 [(.t 21), (.t 22)]), o 1 (.mv (.t 23))])
     (.seq (.reg [o 24 (.mv (.t 1)), o 25 (.bin .lss (.t 24) (.c (.int .i64 0)))])
     (.cond (.t 25) (.seq (.reg [o 4 (.mv (.c (.int .i64 (-1))))])
      (.ret)) (.skip)))))
    (.reg [o 16 (.mv (.t 5)), o 17 (.bin .add (.t 16) (.c (.int .i64 1))), o 5 (.mv (.t 17))]))))))
  (.seq (.reg [o 26 (.mv (.t 1)), o 4 (.mv (.t 26))])
  (.ret))))),
  [.tmp 4]⟩
/- loop.example/g03011/laws.szHeaderS -/
def F113 : Fun := ⟨27,
  .seq (.reg [o 4 (.mv (.c (.int .i64 0)))])
  (.seq (.reg [o 6 (.mv (.t 1)), o 7 (.mv (.t 0)), o 8 (.lenL (.t 7)), o 9 (.bin .sub (.t 6) (.t 8)), o 1 (.mv (.t 9))])
  (.seq (.seq (.reg [o 10 (.mv (.t 1)), o 11 (.bin .lss (.t 10) (.c (.int .i64 0)))])
  (.cond (.t 11) (.seq (.reg [o 4 (.mv (.c (.int .i64 (-1))))])
   (.ret)) (.skip)))
  (.seq (.seq (.reg [o 5 (.mv (.c (.int .i64 0)))])
  (.block 0 (.loop (.seq (.seq (.reg [o 12 (.mv (.t 5)), o 13 (.mv (.t 0)), o 14 (.lenL (.t 13)), o 15 (.bin .lss (.t 12) (.t 14))])
    (.cond (.t 15) (.skip) (.exit 0)))
    (.seq (.block 1 (.seq (.reg [o 18 (.mv (.t 0)), o 19 (.mv (.t 5)), o 20 (.iaddr 2 (.t 18) (.t 19)), o 21 (.load (some 2) (.t 20)), o 22 (.mv (.t 1)), o 23 (.call 126 [(.t 21), (.t 22)]), o 1 (.mv (.t 23))])
     (.seq (.reg [o 24 (.mv (.t 1)), o 25 (.bin .lss (.t 24) (.c (.int .i64 0)))])
     (.cond (.t 25) (.seq (.reg [o 4 (.mv (.c (.int .i64 (-1))))])
      (.ret)) (.skip)))))
    (.reg [o 16 (.mv (.t 5)), o 17 (.bin .add (.t 16) (.c (.int .i64 1))), o 5 (.mv (.t 17))]))))))
  (.seq (.reg [o 26 (.mv (.t 1)), o 4 (.mv (.t 26))])
  (.ret))))),
  [.tmp 4]⟩
/- loop.example/g03011/spec.l22Part -/
def F114 : Fun := ⟨37,
  .seq (.reg [o 2 (.mv (.c (.bool false)))])
  (.seq (.seq (.reg [o 3 (.mv (.c (.int .i64 0)))])
  (.block 0 (.loop (.seq (.seq (.reg [o 4 (.mv (.t 3)), o 5 (.mv (.t 0)), o 6 (.lenS (.t 5)), o 7 (.bin .lss (.t 4) (.t 6))])
    (.cond (.t 7) (.skip) (.exit 0)))
    (.seq (.block 1 (.seq (.reg [o 10 (.mv (.t 0)), o 11 (.mv (.t 3)), o 12 (.index (.t 10) (.t 11)), o 13 (.call 127 [(.t 12)]), o 14 (.un .not (.t 13)), o 15 (.mv (.t 14)), og 16 (.mv (.t 0)) 15 true, og 17 (.mv (.t 3)) 15 true, og 18 (.index (.t 16) (.t 17)) 15 true, og 19 (.call 128 [(.t 18)]) 15 true, og 20 (.un .not (.t 19)) 15 true, o 21 (.pick (.t 15) (.t 20) (.c (.bool false))), o 22 (.mv (.t 21)), og 23 (.mv (.t 0)) 22 true, og 24 (.mv (.t 3)) 22 true, og 25 (.index (.t 23) (.t 24)) 22 true, og 26 (.bin .neq (.t 25) (.c (.int .u8 45))) 22 true, o 27 (.pick (.t 22) (.t 26) (.c (.bool false))), o 28 (.mv (.t 27)), og 29 (.mv (.t 0)) 28 true, og 30 (.mv (.t 3)) 28 true, og 31 (.index (.t 29) (.t 30)) 28 true, og 32 (.bin .neq (.t 31) (.c (.int .u8 46))) 28 true, o 33 (.pick (.t 28) (.t 32) (.c (.bool false)))])
     (.cond (.t 33) (.seq (.reg [o 2 (.mv (.c (.bool false)))])
      (.ret)) (.skip))))
    (.reg [o 8 (.mv (.t 3)), o 9 (.bin .add (.t 8) (.c (.int .i64 1))), o 3 (.mv (.t 9))]))))))
  (.seq (.reg [o 34 (.mv (.t 0)), o 35 (.lenS (.t 34)), o 36 (.call 18 [(.t 35), (.c (.int .i64 1)), (.c (.int .i64 20))]), o 2 (.mv (.t 36))])
  (.ret))),
  [.tmp 2]⟩
/- loop.example/g03011/laws.toPairS -/
def F115 : Fun := ⟨23,
  .seq (.reg [o 2 (.mv (.c .nsl))])
  (.seq (.reg [o 5 (.mv (.t 0)), o 6 (.lenL (.t 5)), o 7 (.mkslice 2 [(.str []), (.str [])] 32 (.t 6) (.t 6)), o 3 (.mv (.t 7))])
  (.seq (.seq (.reg [o 4 (.mv (.c (.int .i64 0)))])
  (.block 0 (.loop (.seq (.seq (.reg [o 8 (.mv (.t 4)), o 9 (.mv (.t 0)), o 10 (.lenL (.t 9)), o 11 (.bin .lss (.t 8) (.t 10))])
    (.cond (.t 11) (.skip) (.exit 0)))
    (.seq (.block 1 (.reg [o 14 (.mv (.t 3)), o 15 (.mv (.t 4)), o 16 (.mv (.t 0)), o 17 (.mv (.t 4)), o 18 (.iaddr 2 (.t 16) (.t 17)), o 19 (.load (some 2) (.t 18)), o 20 (.call 129 [(.t 19)]), o 21 (.iaddr 2 (.t 14) (.t 15)), st (.store 2 (.t 21) (.t 20))]))
    (.reg [o 12 (.mv (.t 4)), o 13 (.bin .add (.t 12) (.c (.int .i64 1))), o 4 (.mv (.t 13))]))))))
  (.seq (.reg [o 22 (.mv (.t 3)), o 2 (.mv (.t 22))])
  (.ret)))),
  [.tmp 2]⟩
/- loop.example/g03011/laws.toHeaderS -/
def F116 : Fun := ⟨23,
  .seq (.reg [o 2 (.mv (.c .nsl))])
  (.seq (.reg [o 5 (.mv (.t 0)), o 6 (.lenL (.t 5)), o 7 (.mkslice 2 [(.str []), (.str [])] 32 (.t 6) (.t 6)), o 3 (.mv (.t 7))])
  (.seq (.seq (.reg [o 4 (.mv (.c (.int .i64 0)))])
  (.block 0 (.loop (.seq (.seq (.reg [o 8 (.mv (.t 4)), o 9 (.mv (.t 0)), o 10 (.lenL (.t 9)), o 11 (.bin .lss (.t 8) (.t 10))])
    (.cond (.t 11) (.skip) (.exit 0)))
    (.seq (.block 1 (.reg [o 14 (.mv (.t 3)), o 15 (.mv (.t 4)), o 16 (.mv (.t 0)), o 17 (.mv (.t 4)), o 18 (.iaddr 2 (.t 16) (.t 17)), o 19 (.load (some 2) (.t 18)), o 20 (.call 130 [(.t 19)]), o 21 (.iaddr 2 (.t 14) (.t 15)), st (.store 2 (.t 21) (.t 20))]))
    (.reg [o 12 (.mv (.t 4)), o 13 (.bin .add (.t 12) (.c (.int .i64 1))), o 4 (.mv (.t 13))]))))))
  (.seq (.reg [o 22 (.mv (.t 3)), o 2 (.mv (.t 22))])
  (.ret)))),
  [.tmp 2]⟩
/- slices.Reverse[[]loop.example/g03011/impl.Job,loop.example/g03011/impl.Job] -/
def F117 : Fun := ⟨28,
  .seq (.reg [o 4 (.mv (.t 0)), o 5 (.lenL (.t 4)), o 6 (.bin .sub (.t 5) (.c (.int .i64 1))), o 2 (.mv (.c (.int .i64 0))), o 3 (.mv (.t 6))])
  (.block 0 (.loop (.seq (.seq (.reg [o 7 (.mv (.t 2)), o 8 (.mv (.t 3)), o 9 (.bin .lss (.t 7) (.t 8))])
    (.cond (.t 9) (.skip) (.exit 0)))
    (.seq (.block 1 (.reg [o 14 (.mv (.t 0)), o 15 (.mv (.t 2)), o 16 (.mv (.t 0)), o 17 (.mv (.t 3)), o 18 (.mv (.t 0)), o 19 (.mv (.t 3)), o 20 (.iaddr 5 (.t 18) (.t 19)), o 21 (.load (some 5) (.t 20)), o 22 (.mv (.t 0)), o 23 (.mv (.t 2)), o 24 (.iaddr 5 (.t 22) (.t 23)), o 25 (.load (some 5) (.t 24)), o 26 (.iaddr 5 (.t 14) (.t 15)), st (.store 5 (.t 26) (.t 21)), o 27 (.iaddr 5 (.t 16) (.t 17)), st (.store 5 (.t 27) (.t 25))]))
    (.reg [o 10 (.mv (.t 2)), o 11 (.bin .add (.t 10) (.c (.int .i64 1))), o 12 (.mv (.t 3)), o 13 (.bin .sub (.t 12) (.c (.int .i64 1))), o 2 (.mv (.t 11)), o 3 (.mv (.t 13))]))))),
  []⟩
/- strings.Split -/
def F118 : Fun := ⟨8,
  .seq (.reg [o 4 (.mv (.c .nsl))])
  (.seq (.reg [o 5 (.mv (.t 0)), o 6 (.mv (.t 1)), o 7 (.call 131 [(.t 5), (.t 6), (.c (.int .i64 0)), (.c (.int .i64 (-1)))]), o 4 (.mv (.t 7))])
  (.ret)),
  [.tmp 4]⟩
/- loop.example/g03011/impl.pathPart -/
def F119 : Fun := ⟨37,
  .seq (.reg [o 2 (.mv (.c (.bool false)))])
  (.seq (.seq (.reg [o 3 (.mv (.c (.int .i64 0)))])
  (.block 0 (.loop (.seq (.seq (.reg [o 5 (.mv (.t 3)), o 6 (.mv (.t 0)), o 7 (.lenS (.t 6)), o 8 (.bin .lss (.t 5) (.t 7))])
    (.cond (.t 8) (.skip) (.exit 0)))
    (.seq (.block 1 (.seq (.reg [o 11 (.mv (.t 0)), o 12 (.mv (.t 3)), o 13 (.index (.t 11) (.t 12)), o 4 (.mv (.t 13))])
     (.seq (.reg [o 14 (.mv (.t 4)), o 15 (.call 132 [(.t 14)]), o 16 (.un .not (.t 15)), o 17 (.mv (.t 16)), og 18 (.mv (.t 4)) 17 true, og 19 (.call 133 [(.t 18)]) 17 true, og 20 (.un .not (.t 19)) 17 true, o 21 (.pick (.t 17) (.t 20) (.c (.bool false))), o 22 (.mv (.t 21)), og 23 (.mv (.t 4)) 22 true, og 24 (.bin .neq (.t 23) (.c (.int .u8 95))) 22 true, o 25 (.pick (.t 22) (.t 24) (.c (.bool false))), o 26 (.mv (.t 25)), og 27 (.mv (.t 4)) 26 true, og 28 (.bin .neq (.t 27) (.c (.int .u8 45))) 26 true, o 29 (.pick (.t 26) (.t 28) (.c (.bool false))), o 30 (.mv (.t 29)), og 31 (.mv (.t 4)) 30 true, og 32 (.bin .neq (.t 31) (.c (.int .u8 46))) 30 true, o 33 (.pick (.t 30) (.t 32) (.c (.bool false)))])
     (.cond (.t 33) (.seq (.reg [o 2 (.mv (.c (.bool false)))])
      (.ret)) (.skip)))))
    (.reg [o 9 (.mv (.t 3)), o 10 (.bin .add (.t 9) (.c (.int .i64 1))), o 3 (.mv (.t 10))]))))))
  (.seq (.reg [o 34 (.mv (.t 0)), o 35 (.lenS (.t 34)), o 36 (.bin .leq (.t 35) (.c (.int .i64 20))), o 2 (.mv (.t 36))])
  (.ret))),
  [.tmp 2]⟩
/- (*strings.Builder).WriteString -/
def F121 : Fun := ⟨19,
  .seq (.reg [o 4 (.mv (.c (.int .i64 0))), o 5 (.mv (.c (.ifc true)))])
  (.seq (.reg [o 6 (.mv (.t 0)), o 7 (.call 134 [(.t 6)])])
  (.seq (.reg [o 8 (.mv (.t 0)), o 9 (.mv (.t 0)), o 10 (.nilck (.t 9)), o 11 (.faddr 1 (.t 10)), o 12 (.load none (.t 11)), o 13 (.mv (.t 1)), o 14 (.append 1 1 (.t 12) (.t 13)), o 15 (.nilck (.t 8)), o 16 (.faddr 1 (.t 15)), st (.store 1 (.t 16) (.t 14))])
  (.seq (.reg [o 17 (.mv (.t 1)), o 18 (.lenS (.t 17)), o 4 (.mv (.t 18)), o 5 (.mv (.c (.ifc true)))])
  (.ret)))),
  [.tmp 4, .tmp 5]⟩
/- loop.example/g03011/laws.eqPairS -/
def F123 : Fun := ⟨27,
  .seq (.reg [o 4 (.mv (.c (.bool false)))])
  (.seq (.seq (.reg [o 6 (.mv (.t 0)), o 7 (.lenL (.t 6)), o 8 (.mv (.t 1)), o 9 (.lenL (.t 8)), o 10 (.bin .neq (.t 7) (.t 9))])
  (.cond (.t 10) (.seq (.reg [o 4 (.mv (.c (.bool false)))])
   (.ret)) (.skip)))
  (.seq (.seq (.reg [o 5 (.mv (.c (.int .i64 0)))])
  (.block 0 (.loop (.seq (.seq (.reg [o 11 (.mv (.t 5)), o 12 (.mv (.t 0)), o 13 (.lenL (.t 12)), o 14 (.bin .lss (.t 11) (.t 13))])
    (.cond (.t 14) (.skip) (.exit 0)))
    (.seq (.block 1 (.seq (.reg [o 17 (.mv (.t 0)), o 18 (.mv (.t 5)), o 19 (.iaddr 2 (.t 17) (.t 18)), o 20 (.load (some 2) (.t 19)), o 21 (.mv (.t 1)), o 22 (.mv (.t 5)), o 23 (.iaddr 2 (.t 21) (.t 22)), o 24 (.load (some 2) (.t 23)), o 25 (.callF 136 [(.t 20), (.t 24)]), o 26 (.un .not (.t 25))])
     (.cond (.t 26) (.seq (.reg [o 4 (.mv (.c (.bool false)))])
      (.ret)) (.skip))))
    (.reg [o 15 (.mv (.t 5)), o 16 (.bin .add (.t 15) (.c (.int .i64 1))), o 5 (.mv (.t 16))]))))))
  (.seq (.reg [o 4 (.mv (.c (.bool true)))])
  (.ret)))),
  [.tmp 4]⟩
/- loop.example/g03011/laws.eqHeaderS -/
def F124 : Fun := ⟨27,
  .seq (.reg [o 4 (.mv (.c (.bool false)))])
  (.seq (.seq (.reg [o 6 (.mv (.t 0)), o 7 (.lenL (.t 6)), o 8 (.mv (.t 1)), o 9 (.lenL (.t 8)), o 10 (.bin .neq (.t 7) (.t 9))])
  (.cond (.t 10) (.seq (.reg [o 4 (.mv (.c (.bool false)))])
   (.ret)) (.skip)))
  (.seq (.seq (.reg [o 5 (.mv (.c (.int .i64 0)))])
  (.block 0 (.loop (.seq (.seq (.reg [o 11 (.mv (.t 5)), o 12 (.mv (.t 0)), o 13 (.lenL (.t 12)), o 14 (.bin .lss (.t 11) (.t 13))])
    (.cond (.t 14) (.skip) (.exit 0)))
    (.seq (.block 1 (.seq (.reg [o 17 (.mv (.t 0)), o 18 (.mv (.t 5)), o 19 (.iaddr 2 (.t 17) (.t 18)), o 20 (.load (some 2) (.t 19)), o 21 (.mv (.t 1)), o 22 (.mv (.t 5)), o 23 (.iaddr 2 (.t 21) (.t 22)), o 24 (.load (some 2) (.t 23)), o 25 (.callF 137 [(.t 20), (.t 24)]), o 26 (.un .not (.t 25))])
     (.cond (.t 26) (.seq (.reg [o 4 (.mv (.c (.bool false)))])
      (.ret)) (.skip))))
    (.reg [o 15 (.mv (.t 5)), o 16 (.bin .add (.t 15) (.c (.int .i64 1))), o 5 (.mv (.t 16))]))))))
  (.seq (.reg [o 4 (.mv (.c (.bool true)))])
  (.ret)))),
  [.tmp 4]⟩
/- loop.example/g03011/laws.szPair -/
def F125 : Fun := ⟨20,
  .seq (.reg [o 2 (.box 2 (.t 0)), o 4 (.mv (.c (.int .i64 0)))])
  (.seq (.reg [o 5 (.mv (.t 1)), o 6 (.faddr 0 (.t 2)), o 7 (.load none (.t 6)), o 8 (.lenS (.t 7)), o 9 (.bin .sub (.t 5) (.t 8)), o 1 (.mv (.t 9))])
  (.seq (.seq (.reg [o 10 (.mv (.t 1)), o 11 (.bin .lss (.t 10) (.c (.int .i64 0)))])
  (.cond (.t 11) (.seq (.reg [o 4 (.mv (.c (.int .i64 (-1))))])
   (.ret)) (.skip)))
  (.seq (.reg [o 12 (.mv (.t 1)), o 13 (.faddr 1 (.t 2)), o 14 (.load none (.t 13)), o 15 (.lenS (.t 14)), o 16 (.bin .sub (.t 12) (.t 15)), o 1 (.mv (.t 16))])
  (.seq (.seq (.reg [o 17 (.mv (.t 1)), o 18 (.bin .lss (.t 17) (.c (.int .i64 0)))])
  (.cond (.t 18) (.seq (.reg [o 4 (.mv (.c (.int .i64 (-1))))])
   (.ret)) (.skip)))
  (.seq (.reg [o 19 (.mv (.t 1)), o 4 (.mv (.t 19))])
  (.ret)))))),
  [.tmp 4]⟩
/- loop.example/g03011/laws.szHeader -/
def F126 : Fun := ⟨20,
  .seq (.reg [o 2 (.box 2 (.t 0)), o 4 (.mv (.c (.int .i64 0)))])
  (.seq (.reg [o 5 (.mv (.t 1)), o 6 (.faddr 0 (.t 2)), o 7 (.load none (.t 6)), o 8 (.lenS (.t 7)), o 9 (.bin .sub (.t 5) (.t 8)), o 1 (.mv (.t 9))])
  (.seq (.seq (.reg [o 10 (.mv (.t 1)), o 11 (.bin .lss (.t 10) (.c (.int .i64 0)))])
  (.cond (.t 11) (.seq (.reg [o 4 (.mv (.c (.int .i64 (-1))))])
   (.ret)) (.skip)))
  (.seq (.reg [o 12 (.mv (.t 1)), o 13 (.faddr 1 (.t 2)), o 14 (.load none (.t 13)), o 15 (.lenS (.t 14)), o 16 (.bin .sub (.t 12) (.t 15)), o 1 (.mv (.t 16))])
  (.seq (.seq (.reg [o 17 (.mv (.t 1)), o 18 (.bin .lss (.t 17) (.c (.int .i64 0)))])
  (.cond (.t 18) (.seq (.reg [o 4 (.mv (.c (.int .i64 (-1))))])
   (.ret)) (.skip)))
  (.seq (.reg [o 19 (.mv (.t 1)), o 4 (.mv (.t 19))])
  (.ret)))))),
  [.tmp 4]⟩
/- loop.example/g03011/spec.l14Letter -/
def F127 : Fun := ⟨15,
  .seq (.reg [o 2 (.mv (.c (.bool false)))])
  (.seq (.reg [o 3 (.mv (.t 0)), o 4 (.toInt .i64 (.t 3)), o 5 (.call 18 [(.t 4), (.c (.int .i64 97)), (.c (.int .i64 122))]), o 6 (.mv (.t 5)), og 7 (.mv (.t 0)) 6 false, og 8 (.toInt .i64 (.t 7)) 6 false, og 9 (.call 18 [(.t 8), (.c (.int .i64 65)), (.c (.int .i64 90))]) 6 false, o 10 (.pick (.t 6) (.c (.bool true)) (.t 9)), o 11 (.mv (.t 10)), og 12 (.mv (.t 0)) 11 false, og 13 (.bin .eql (.t 12) (.c (.int .u8 95))) 11 false, o 14 (.pick (.t 11) (.c (.bool true)) (.t 13)), o 2 (.mv (.t 14))])
  (.ret)),
  [.tmp 2]⟩
/- loop.example/g03011/spec.l14Digit -/
def F128 : Fun := ⟨6,
  .seq (.reg [o 2 (.mv (.c (.bool false)))])
  (.seq (.reg [o 3 (.mv (.t 0)), o 4 (.toInt .i64 (.t 3)), o 5 (.call 18 [(.t 4), (.c (.int .i64 48)), (.c (.int .i64 57))]), o 2 (.mv (.t 5))])
  (.ret)),
  [.tmp 2]⟩
/- loop.example/g03011/laws.toPair -/
def F129 : Fun := ⟨11,
  .seq (.reg [o 1 (.box 2 (.t 0)), o 2 (.new 2 [(.str []), (.str [])])])
  (.seq (.reg [o 3 (.new 2 [(.str []), (.str [])])])
  (.seq (.reg [o 4 (.faddr 0 (.t 1)), o 5 (.load none (.t 4)), o 6 (.faddr 0 (.t 3)), st (.store 1 (.t 6) (.t 5))])
  (.seq (.reg [o 7 (.faddr 1 (.t 1)), o 8 (.load none (.t 7)), o 9 (.faddr 1 (.t 3)), st (.store 1 (.t 9) (.t 8))])
  (.seq (.reg [o 10 (.load (some 2) (.t 3)), st (.store 2 (.t 2) (.t 10))])
  (.ret))))),
  [.cell 2 (some 2)]⟩
/- loop.example/g03011/laws.toHeader -/
def F130 : Fun := ⟨11,
  .seq (.reg [o 1 (.box 2 (.t 0)), o 2 (.new 2 [(.str []), (.str [])])])
  (.seq (.reg [o 3 (.new 2 [(.str []), (.str [])])])
  (.seq (.reg [o 4 (.faddr 0 (.t 1)), o 5 (.load none (.t 4)), o 6 (.faddr 0 (.t 3)), st (.store 1 (.t 6) (.t 5))])
  (.seq (.reg [o 7 (.faddr 1 (.t 1)), o 8 (.load none (.t 7)), o 9 (.faddr 1 (.t 3)), st (.store 1 (.t 9) (.t 8))])
  (.seq (.reg [o 10 (.load (some 2) (.t 3)), st (.store 2 (.t 2) (.t 10))])
  (.ret))))),
  [.cell 2 (some 2)]⟩
/- loop.example/g03011/impl.isLetter -/
def F132 : Fun := ⟨17,
  .seq (.reg [o 2 (.mv (.c (.bool false)))])
  (.seq (.reg [o 3 (.mv (.t 0)), o 4 (.bin .geq (.t 3) (.c (.int .u8 65))), o 5 (.mv (.t 4)), og 6 (.mv (.t 0)) 5 true, og 7 (.bin .leq (.t 6) (.c (.int .u8 90))) 5 true, o 8 (.pick (.t 5) (.t 7) (.c (.bool false))), o 9 (.mv (.t 8)), og 10 (.mv (.t 0)) 9 false, og 11 (.bin .geq (.t 10) (.c (.int .u8 97))) 9 false, og 12 (.mv (.t 11)) 9 false, og 13 (.mv (.t 0)) 12 true, og 14 (.bin .leq (.t 13) (.c (.int .u8 122))) 12 true, og 15 (.pick (.t 12) (.t 14) (.c (.bool false))) 9 false, o 16 (.pick (.t 9) (.c (.bool true)) (.t 15)), o 2 (.mv (.t 16))])
  (.ret)),
  [.tmp 2]⟩
/- loop.example/g03011/impl.isDigit -/
def F133 : Fun := ⟨9,
  .seq (.reg [o 2 (.mv (.c (.bool false)))])
  (.seq (.reg [o 3 (.mv (.t 0)), o 4 (.bin .geq (.t 3) (.c (.int .u8 48))), o 5 (.mv (.t 4)), og 6 (.mv (.t 0)) 5 true, og 7 (.bin .leq (.t 6) (.c (.int .u8 57))) 5 true, o 8 (.pick (.t 5) (.t 7) (.c (.bool false))), o 2 (.mv (.t 8))])
  (.ret)),
  [.tmp 2]⟩
/- loop.example/g03011/laws.eqPair -/
def F136 : Fun := ⟨15,
  .seq (.reg [o 2 (.box 2 (.t 0)), o 3 (.box 2 (.t 1)), o 4 (.mv (.c (.bool false)))])
  (.seq (.seq (.reg [o 5 (.faddr 0 (.t 2)), o 6 (.load none (.t 5)), o 7 (.faddr 0 (.t 3)), o 8 (.load none (.t 7)), o 9 (.bin .neq (.t 6) (.t 8))])
  (.cond (.t 9) (.seq (.reg [o 4 (.mv (.c (.bool false)))])
   (.ret)) (.skip)))
  (.seq (.seq (.reg [o 10 (.faddr 1 (.t 2)), o 11 (.load none (.t 10)), o 12 (.faddr 1 (.t 3)), o 13 (.load none (.t 12)), o 14 (.bin .neq (.t 11) (.t 13))])
  (.cond (.t 14) (.seq (.reg [o 4 (.mv (.c (.bool false)))])
   (.ret)) (.skip)))
  (.seq (.reg [o 4 (.mv (.c (.bool true)))])
  (.ret)))),
  [.tmp 4]⟩
/- loop.example/g03011/laws.eqHeader -/
def F137 : Fun := ⟨15,
  .seq (.reg [o 2 (.box 2 (.t 0)), o 3 (.box 2 (.t 1)), o 4 (.mv (.c (.bool false)))])
  (.seq (.seq (.reg [o 5 (.faddr 0 (.t 2)), o 6 (.load none (.t 5)), o 7 (.faddr 0 (.t 3)), o 8 (.load none (.t 7)), o 9 (.bin .neq (.t 6) (.t 8))])
  (.cond (.t 9) (.seq (.reg [o 4 (.mv (.c (.bool false)))])
   (.ret)) (.skip)))
  (.seq (.seq (.reg [o 10 (.faddr 1 (.t 2)), o 11 (.load none (.t 10)), o 12 (.faddr 1 (.t 3)), o 13 (.load none (.t 12)), o 14 (.bin .neq (.t 11) (.t 13))])
  (.cond (.t 14) (.seq (.reg [o 4 (.mv (.c (.bool false)))])
   (.ret)) (.skip)))
  (.seq (.reg [o 4 (.mv (.c (.bool true)))])
  (.ret)))),
  [.tmp 4]⟩
/- strings.explode -/
def F138 : Fun := ⟨50,
  .seq (.reg [o 4 (.mv (.c .nsl))])
  (.seq (.reg [o 10 (.mv (.t 0)), o 11 (.call 143 [(.t 10)]), o 5 (.mv (.t 11))])
  (.seq (.seq (.reg [o 12 (.mv (.t 1)), o 13 (.bin .lss (.t 12) (.c (.int .i64 0))), o 14 (.mv (.t 13)), og 15 (.mv (.t 1)) 14 false, og 16 (.mv (.t 5)) 14 false, og 17 (.bin .gtr (.t 15) (.t 16)) 14 false, o 18 (.pick (.t 14) (.c (.bool true)) (.t 17))])
  (.cond (.t 18) (.reg [o 19 (.mv (.t 5)), o 1 (.mv (.t 19))]) (.skip)))
  (.seq (.reg [o 20 (.mv (.t 1)), o 21 (.mkslice 1 [(.str [])] 16 (.t 20) (.t 20)), o 6 (.mv (.t 21))])
  (.seq (.seq (.reg [o 7 (.mv (.c (.int .i64 0)))])
  (.block 0 (.loop (.seq (.seq (.reg [o 22 (.mv (.t 7)), o 23 (.mv (.t 1)), o 24 (.bin .sub (.t 23) (.c (.int .i64 1))), o 25 (.bin .lss (.t 22) (.t 24))])
    (.cond (.t 25) (.skip) (.exit 0)))
    (.seq (.block 1 (.seq (.reg [o 29 (.mv (.t 0)), o 30 (.call 144 [(.t 29)]), o 28 (.mv (.t 30)), o 31 (.extract (.t 28) 0), o 32 (.extract (.t 28) 1), o 8 (.mv (.t 31)), o 9 (.mv (.t 32))])
     (.seq (.reg [o 33 (.mv (.t 6)), o 34 (.mv (.t 7)), o 35 (.mv (.t 0)), o 36 (.mv (.t 9)), o 37 (.sliceS (.t 35) none (some (.t 36))), o 38 (.iaddr 1 (.t 33) (.t 34)), st (.store 1 (.t 38) (.t 37))])
     (.reg [o 39 (.mv (.t 0)), o 40 (.mv (.t 9)), o 41 (.sliceS (.t 39) (some (.t 40)) none), o 0 (.mv (.t 41))]))))
    (.reg [o 26 (.mv (.t 7)), o 27 (.bin .add (.t 26) (.c (.int .i64 1))), o 7 (.mv (.t 27))]))))))
  (.seq (.seq (.reg [o 42 (.mv (.t 1)), o 43 (.bin .gtr (.t 42) (.c (.int .i64 0)))])
  (.cond (.t 43) (.reg [o 44 (.mv (.t 6)), o 45 (.mv (.t 1)), o 46 (.bin .sub (.t 45) (.c (.int .i64 1))), o 47 (.mv (.t 0)), o 48 (.iaddr 1 (.t 44) (.t 46)), st (.store 1 (.t 48) (.t 47))]) (.skip)))
  (.seq (.reg [o 49 (.mv (.t 6)), o 4 (.mv (.t 49))])
  (.ret))))))),
  [.tmp 4]⟩
/- strings.Index -/
def F140 : Fun := ⟨8,
  .seq (.reg [o 4 (.mv (.c (.int .i64 0)))])
  (.seq (.reg [o 5 (.mv (.t 0)), o 6 (.mv (.t 1)), o 7 (.call 146 [(.t 5), (.t 6)]), o 4 (.mv (.t 7))])
  (.ret)),
  [.tmp 4]⟩
/- unicode/utf8.DecodeRuneInString -/
def F144 : Fun := ⟨19,
  .seq (.reg [o 2 (.mv (.c (.int .i32 0))), o 3 (.mv (.c (.int .i64 0)))])
  (.seq (.seq (.reg [o 4 (.mv (.t 0)), o 5 (.bin .neq (.t 4) (.c (.str []))), o 6 (.mv (.t 5)), og 7 (.mv (.t 0)) 6 true, og 8 (.index (.t 7) (.c (.int .i64 0))) 6 true, og 9 (.bin .lss (.t 8) (.c (.int .u8 128))) 6 true, o 10 (.pick (.t 6) (.t 9) (.c (.bool false)))])
  (.cond (.t 10) (.seq (.reg [o 11 (.mv (.t 0)), o 12 (.index (.t 11) (.c (.int .i64 0))), o 13 (.toInt .i32 (.t 12)), o 2 (.mv (.t 13)), o 3 (.mv (.c (.int .i64 1)))])
   (.ret)) (.reg [o 15 (.mv (.t 0)), o 16 (.call 147 [(.t 15)]), o 14 (.mv (.t 16)), o 17 (.extract (.t 14) 0), o 18 (.extract (.t 14) 1), o 2 (.mv (.t 17)), o 3 (.mv (.t 18))])))
  (.ret)),
  [.tmp 2, .tmp 3]⟩
/- internal/bytealg.Cutover -/
def F150 : Fun := ⟨6,
  .seq (.reg [o 2 (.mv (.c (.int .i64 0)))])
  (.seq (.reg [o 3 (.mv (.t 0)), o 4 (.bin .add (.t 3) (.c (.int .i64 16))), o 5 (.bin .quo (.t 4) (.c (.int .i64 8))), o 2 (.mv (.t 5))])
  (.ret)),
  [.tmp 2]⟩
/- internal/bytealg.IndexRabinKarp[string] -/
def F151 : Fun := ⟨81,
  .seq (.reg [o 4 (.mv (.c (.int .i64 0)))])
  (.seq (.reg [o 12 (.mv (.t 1)), o 13 (.call 153 [(.t 12)]), o 11 (.mv (.t 13)), o 14 (.extract (.t 11) 0), o 15 (.extract (.t 11) 1), o 5 (.mv (.t 14)), o 6 (.mv (.t 15))])
  (.seq (.reg [o 16 (.mv (.t 1)), o 17 (.lenS (.t 16)), o 7 (.mv (.t 17))])
  (.seq (.reg [o 8 (.mv (.c (.int .u32 0)))])
  (.seq (.seq (.reg [o 9 (.mv (.c (.int .i64 0)))])
  (.block 0 (.loop (.seq (.seq (.reg [o 18 (.mv (.t 9)), o 19 (.mv (.t 7)), o 20 (.bin .lss (.t 18) (.t 19))])
    (.cond (.t 20) (.skip) (.exit 0)))
    (.seq (.block 1 (.reg [o 23 (.mv (.t 8)), o 24 (.bin .mul (.t 23) (.c (.int .u32 16777619))), o 25 (.mv (.t 0)), o 26 (.mv (.t 9)), o 27 (.index (.t 25) (.t 26)), o 28 (.toInt .u32 (.t 27)), o 29 (.bin .add (.t 24) (.t 28)), o 8 (.mv (.t 29))]))
    (.reg [o 21 (.mv (.t 9)), o 22 (.bin .add (.t 21) (.c (.int .i64 1))), o 9 (.mv (.t 22))]))))))
  (.seq (.seq (.reg [o 30 (.mv (.t 8)), o 31 (.mv (.t 5)), o 32 (.bin .eql (.t 30) (.t 31)), o 33 (.mv (.t 32)), og 34 (.mv (.t 0)) 33 true, og 35 (.mv (.t 7)) 33 true, og 36 (.sliceS (.t 34) none (some (.t 35))) 33 true, og 37 (.mv (.t 1)) 33 true, og 38 (.bin .eql (.t 36) (.t 37)) 33 true, o 39 (.pick (.t 33) (.t 38) (.c (.bool false)))])
  (.cond (.t 39) (.seq (.reg [o 4 (.mv (.c (.int .i64 0)))])
   (.ret)) (.skip)))
  (.seq (.seq (.reg [o 40 (.mv (.t 7)), o 10 (.mv (.t 40))])
  (.block 2 (.loop (.seq (.seq (.reg [o 41 (.mv (.t 10)), o 42 (.mv (.t 0)), o 43 (.lenS (.t 42)), o 44 (.bin .lss (.t 41) (.t 43))])
    (.cond (.t 44) (.skip) (.exit 2)))
    (.block 3 (.seq (.reg [o 45 (.mv (.t 8)), o 46 (.bin .mul (.t 45) (.c (.int .u32 16777619))), o 8 (.mv (.t 46))])
     (.seq (.reg [o 47 (.mv (.t 8)), o 48 (.mv (.t 0)), o 49 (.mv (.t 10)), o 50 (.index (.t 48) (.t 49)), o 51 (.toInt .u32 (.t 50)), o 52 (.bin .add (.t 47) (.t 51)), o 8 (.mv (.t 52))])
     (.seq (.reg [o 53 (.mv (.t 8)), o 54 (.mv (.t 6)), o 55 (.mv (.t 0)), o 56 (.mv (.t 10)), o 57 (.mv (.t 7)), o 58 (.bin .sub (.t 56) (.t 57)), o 59 (.index (.t 55) (.t 58)), o 60 (.toInt .u32 (.t 59)), o 61 (.bin .mul (.t 54) (.t 60)), o 62 (.bin .sub (.t 53) (.t 61)), o 8 (.mv (.t 62))])
     (.seq (.reg [o 63 (.mv (.t 10)), o 64 (.bin .add (.t 63) (.c (.int .i64 1))), o 10 (.mv (.t 64))])
     (.seq (.reg [o 65 (.mv (.t 8)), o 66 (.mv (.t 5)), o 67 (.bin .eql (.t 65) (.t 66)), o 68 (.mv (.t 67)), og 69 (.mv (.t 0)) 68 true, og 70 (.mv (.t 10)) 68 true, og 71 (.mv (.t 7)) 68 true, og 72 (.bin .sub (.t 70) (.t 71)) 68 true, og 73 (.mv (.t 10)) 68 true, og 74 (.sliceS (.t 69) (some (.t 72)) (some (.t 73))) 68 true, og 75 (.mv (.t 1)) 68 true, og 76 (.bin .eql (.t 74) (.t 75)) 68 true, o 77 (.pick (.t 68) (.t 76) (.c (.bool false)))])
     (.cond (.t 77) (.seq (.reg [o 78 (.mv (.t 10)), o 79 (.mv (.t 7)), o 80 (.bin .sub (.t 78) (.t 79)), o 4 (.mv (.t 80))])
      (.ret)) (.skip))))))))))))
  (.seq (.reg [o 4 (.mv (.c (.int .i64 (-1))))])
  (.ret)))))))),
  [.tmp 4]⟩
/- internal/bytealg.hashStr[string] -/
def F153 : Fun := ⟨39,
  .seq (.reg [o 2 (.mv (.c (.int .u32 0))), o 3 (.mv (.c (.int .u32 0)))])
  (.seq (.reg [o 4 (.mv (.c (.int .u32 0)))])
  (.seq (.seq (.reg [o 5 (.mv (.c (.int .i64 0)))])
  (.block 0 (.loop (.seq (.seq (.reg [o 9 (.mv (.t 5)), o 10 (.mv (.t 0)), o 11 (.lenS (.t 10)), o 12 (.bin .lss (.t 9) (.t 11))])
    (.cond (.t 12) (.skip) (.exit 0)))
    (.seq (.block 1 (.reg [o 15 (.mv (.t 4)), o 16 (.bin .mul (.t 15) (.c (.int .u32 16777619))), o 17 (.mv (.t 0)), o 18 (.mv (.t 5)), o 19 (.index (.t 17) (.t 18)), o 20 (.toInt .u32 (.t 19)), o 21 (.bin .add (.t 16) (.t 20)), o 4 (.mv (.t 21))]))
    (.reg [o 13 (.mv (.t 5)), o 14 (.bin .add (.t 13) (.c (.int .i64 1))), o 5 (.mv (.t 14))]))))))
  (.seq (.reg [o 6 (.mv (.c (.int .u32 1))), o 7 (.mv (.c (.int .u32 16777619)))])
  (.seq (.seq (.reg [o 22 (.mv (.t 0)), o 23 (.lenS (.t 22)), o 8 (.mv (.t 23))])
  (.block 2 (.loop (.seq (.seq (.reg [o 24 (.mv (.t 8)), o 25 (.bin .gtr (.t 24) (.c (.int .i64 0)))])
    (.cond (.t 25) (.skip) (.exit 2)))
    (.seq (.block 3 (.seq (.seq (.reg [o 28 (.mv (.t 8)), o 29 (.bin .and (.t 28) (.c (.int .i64 1))), o 30 (.bin .neq (.t 29) (.c (.int .i64 0)))])
     (.cond (.t 30) (.reg [o 31 (.mv (.t 6)), o 32 (.mv (.t 7)), o 33 (.bin .mul (.t 31) (.t 32)), o 6 (.mv (.t 33))]) (.skip)))
     (.reg [o 34 (.mv (.t 7)), o 35 (.mv (.t 7)), o 36 (.bin .mul (.t 34) (.t 35)), o 7 (.mv (.t 36))])))
    (.reg [o 26 (.mv (.t 8)), o 27 (.bin .shr (.t 26) (.c (.int .u64 1))), o 8 (.mv (.t 27))]))))))
  (.seq (.reg [o 37 (.mv (.t 4)), o 38 (.mv (.t 6)), o 2 (.mv (.t 37)), o 3 (.mv (.t 38))])
  (.ret)))))),
  [.tmp 2, .tmp 3]⟩

theorem c3 : compF Tryz.prog 3 = some F3 := by kernel_rfl
theorem c4 : compF Tryz.prog 4 = some F4 := by kernel_rfl
theorem c5 : compF Tryz.prog 5 = some F5 := by kernel_rfl
theorem c6 : compF Tryz.prog 6 = some F6 := by kernel_rfl
theorem c7 : compF Tryz.prog 7 = some F7 := by kernel_rfl
theorem c8 : compF Tryz.prog 8 = some F8 := by kernel_rfl
theorem c9 : compF Tryz.prog 9 = some F9 := by kernel_rfl
theorem c10 : compF Tryz.prog 10 = some F10 := by kernel_rfl
theorem c11 : compF Tryz.prog 11 = some F11 := by kernel_rfl
theorem c12 : compF Tryz.prog 12 = some F12 := by kernel_rfl
theorem c13 : compF Tryz.prog 13 = some F13 := by kernel_rfl
theorem c14 : compF Tryz.prog 14 = some F14 := by kernel_rfl
theorem c15 : compF Tryz.prog 15 = some F15 := by kernel_rfl
theorem c16 : compF Tryz.prog 16 = some F16 := by kernel_rfl
theorem c17 : compF Tryz.prog 17 = some F17 := by kernel_rfl
theorem c18 : compF Tryz.prog 18 = some F18 := by kernel_rfl
theorem c19 : compF Tryz.prog 19 = some F19 := by kernel_rfl
theorem c20 : compF Tryz.prog 20 = some F20 := by kernel_rfl
theorem c21 : compF Tryz.prog 21 = some F21 := by kernel_rfl
theorem c22 : compF Tryz.prog 22 = some F22 := by kernel_rfl
theorem c23 : compF Tryz.prog 23 = some F23 := by kernel_rfl
theorem c24 : compF Tryz.prog 24 = some F24 := by kernel_rfl
theorem c25 : compF Tryz.prog 25 = some F25 := by kernel_rfl
theorem c26 : compF Tryz.prog 26 = some F26 := by kernel_rfl
theorem c27 : compF Tryz.prog 27 = some F27 := by kernel_rfl
theorem c28 : compF Tryz.prog 28 = some F28 := by kernel_rfl
theorem c29 : compF Tryz.prog 29 = some F29 := by kernel_rfl
theorem c31 : compF Tryz.prog 31 = some F31 := by kernel_rfl
theorem c32 : compF Tryz.prog 32 = some F32 := by kernel_rfl
theorem c33 : compF Tryz.prog 33 = some F33 := by kernel_rfl
theorem c34 : compF Tryz.prog 34 = some F34 := by kernel_rfl
theorem c35 : compF Tryz.prog 35 = some F35 := by kernel_rfl
theorem c36 : compF Tryz.prog 36 = some F36 := by kernel_rfl
theorem c37 : compF Tryz.prog 37 = some F37 := by kernel_rfl
theorem c38 : compF Tryz.prog 38 = some F38 := by kernel_rfl
theorem c39 : compF Tryz.prog 39 = some F39 := by kernel_rfl
theorem c40 : compF Tryz.prog 40 = some F40 := by kernel_rfl
theorem c41 : compF Tryz.prog 41 = some F41 := by kernel_rfl
theorem c42 : compF Tryz.prog 42 = some F42 := by kernel_rfl
theorem c43 : compF Tryz.prog 43 = some F43 := by kernel_rfl
theorem c44 : compF Tryz.prog 44 = some F44 := by kernel_rfl
theorem c45 : compF Tryz.prog 45 = some F45 := by kernel_rfl
theorem c46 : compF Tryz.prog 46 = some F46 := by kernel_rfl
theorem c47 : compF Tryz.prog 47 = some F47 := by kernel_rfl
theorem c48 : compF Tryz.prog 48 = some F48 := by kernel_rfl
theorem c49 : compF Tryz.prog 49 = some F49 := by kernel_rfl
theorem c50 : compF Tryz.prog 50 = some F50 := by kernel_rfl
theorem c51 : compF Tryz.prog 51 = some F51 := by kernel_rfl
theorem c52 : compF Tryz.prog 52 = some F52 := by kernel_rfl
theorem c53 : compF Tryz.prog 53 = some F53 := by kernel_rfl
theorem c54 : compF Tryz.prog 54 = some F54 := by kernel_rfl
theorem c55 : compF Tryz.prog 55 = some F55 := by kernel_rfl
theorem c56 : compF Tryz.prog 56 = some F56 := by kernel_rfl
theorem c57 : compF Tryz.prog 57 = some F57 := by kernel_rfl
theorem c58 : compF Tryz.prog 58 = some F58 := by kernel_rfl
theorem c59 : compF Tryz.prog 59 = some F59 := by kernel_rfl
theorem c60 : compF Tryz.prog 60 = some F60 := by kernel_rfl
theorem c61 : compF Tryz.prog 61 = some F61 := by kernel_rfl
theorem c62 : compF Tryz.prog 62 = some F62 := by kernel_rfl
theorem c63 : compF Tryz.prog 63 = some F63 := by kernel_rfl
theorem c64 : compF Tryz.prog 64 = some F64 := by kernel_rfl
theorem c65 : compF Tryz.prog 65 = some F65 := by kernel_rfl
theorem c66 : compF Tryz.prog 66 = some F66 := by kernel_rfl
theorem c67 : compF Tryz.prog 67 = some F67 := by kernel_rfl
theorem c68 : compF Tryz.prog 68 = some F68 := by kernel_rfl
theorem c69 : compF Tryz.prog 69 = some F69 := by kernel_rfl
theorem c70 : compF Tryz.prog 70 = some F70 := by kernel_rfl
theorem c71 : compF Tryz.prog 71 = some F71 := by kernel_rfl
theorem c72 : compF Tryz.prog 72 = some F72 := by kernel_rfl
theorem c73 : compF Tryz.prog 73 = some F73 := by kernel_rfl
theorem c74 : compF Tryz.prog 74 = some F74 := by kernel_rfl
theorem c75 : compF Tryz.prog 75 = some F75 := by kernel_rfl
theorem c77 : compF Tryz.prog 77 = some F77 := by kernel_rfl
theorem c78 : compF Tryz.prog 78 = some F78 := by kernel_rfl
theorem c79 : compF Tryz.prog 79 = some F79 := by kernel_rfl
theorem c80 : compF Tryz.prog 80 = some F80 := by kernel_rfl
theorem c81 : compF Tryz.prog 81 = some F81 := by kernel_rfl
theorem c82 : compF Tryz.prog 82 = some F82 := by kernel_rfl
theorem c83 : compF Tryz.prog 83 = some F83 := by kernel_rfl
theorem c84 : compF Tryz.prog 84 = some F84 := by kernel_rfl
theorem c85 : compF Tryz.prog 85 = some F85 := by kernel_rfl
theorem c86 : compF Tryz.prog 86 = some F86 := by kernel_rfl
theorem c87 : compF Tryz.prog 87 = some F87 := by kernel_rfl
theorem c88 : compF Tryz.prog 88 = some F88 := by kernel_rfl
theorem c89 : compF Tryz.prog 89 = some F89 := by kernel_rfl
theorem c90 : compF Tryz.prog 90 = some F90 := by kernel_rfl
theorem c91 : compF Tryz.prog 91 = some F91 := by kernel_rfl
theorem c92 : compF Tryz.prog 92 = some F92 := by kernel_rfl
theorem c93 : compF Tryz.prog 93 = some F93 := by kernel_rfl
theorem c94 : compF Tryz.prog 94 = some F94 := by kernel_rfl
theorem c95 : compF Tryz.prog 95 = some F95 := by kernel_rfl
theorem c96 : compF Tryz.prog 96 = some F96 := by kernel_rfl
theorem c97 : compF Tryz.prog 97 = some F97 := by kernel_rfl
theorem c98 : compF Tryz.prog 98 = some F98 := by kernel_rfl
theorem c99 : compF Tryz.prog 99 = some F99 := by kernel_rfl
theorem c100 : compF Tryz.prog 100 = some F100 := by kernel_rfl
theorem c101 : compF Tryz.prog 101 = some F101 := by kernel_rfl
theorem c102 : compF Tryz.prog 102 = some F102 := by kernel_rfl
theorem c103 : compF Tryz.prog 103 = some F103 := by kernel_rfl
theorem c104 : compF Tryz.prog 104 = some F104 := by kernel_rfl
theorem c105 : compF Tryz.prog 105 = some F105 := by kernel_rfl
theorem c106 : compF Tryz.prog 106 = some F106 := by kernel_rfl
theorem c108 : compF Tryz.prog 108 = some F108 := by kernel_rfl
theorem c109 : compF Tryz.prog 109 = some F109 := by kernel_rfl
theorem c110 : compF Tryz.prog 110 = some F110 := by kernel_rfl
theorem c111 : compF Tryz.prog 111 = some F111 := by kernel_rfl
theorem c112 : compF Tryz.prog 112 = some F112 := by kernel_rfl
theorem c113 : compF Tryz.prog 113 = some F113 := by kernel_rfl
theorem c114 : compF Tryz.prog 114 = some F114 := by kernel_rfl
theorem c115 : compF Tryz.prog 115 = some F115 := by kernel_rfl
theorem c116 : compF Tryz.prog 116 = some F116 := by kernel_rfl
theorem c117 : compF Tryz.prog 117 = some F117 := by kernel_rfl
theorem c118 : compF Tryz.prog 118 = some F118 := by kernel_rfl
theorem c119 : compF Tryz.prog 119 = some F119 := by kernel_rfl
theorem c121 : compF Tryz.prog 121 = some F121 := by kernel_rfl
theorem c123 : compF Tryz.prog 123 = some F123 := by kernel_rfl
theorem c124 : compF Tryz.prog 124 = some F124 := by kernel_rfl
theorem c125 : compF Tryz.prog 125 = some F125 := by kernel_rfl
theorem c126 : compF Tryz.prog 126 = some F126 := by kernel_rfl
theorem c127 : compF Tryz.prog 127 = some F127 := by kernel_rfl
theorem c128 : compF Tryz.prog 128 = some F128 := by kernel_rfl
theorem c129 : compF Tryz.prog 129 = some F129 := by kernel_rfl
theorem c130 : compF Tryz.prog 130 = some F130 := by kernel_rfl
theorem c132 : compF Tryz.prog 132 = some F132 := by kernel_rfl
theorem c133 : compF Tryz.prog 133 = some F133 := by kernel_rfl
theorem c136 : compF Tryz.prog 136 = some F136 := by kernel_rfl
theorem c137 : compF Tryz.prog 137 = some F137 := by kernel_rfl
theorem c138 : compF Tryz.prog 138 = some F138 := by kernel_rfl
theorem c140 : compF Tryz.prog 140 = some F140 := by kernel_rfl
theorem c144 : compF Tryz.prog 144 = some F144 := by kernel_rfl
theorem c150 : compF Tryz.prog 150 = some F150 := by kernel_rfl
theorem c151 : compF Tryz.prog 151 = some F151 := by kernel_rfl
theorem c153 : compF Tryz.prog 153 = some F153 := by kernel_rfl
end A
end Go.Proofs.YtkcilmkienlnoaaGreatDoor
