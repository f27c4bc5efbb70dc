import Derived.Test.YtgiiipbpadgcgaaRows
import Derived.Test.YtgiiipbpadgcgaaB05

/-
  The functions of the seat in the small language: printed by a program (wip/tools/irdump.lean), each held against the model's code. No condition.
-/


namespace Go.Proofs.Ytgiiipbpadgcgaa
namespace A
set_option linter.unusedVariables false
/- loop.example/g03011/laws.FnExactAreSessions -/
def F3 : Fun := ⟨27,
  .seq (.reg [o 2 (.mv (.c (.bool false)))])
  (.seq (.reg [o 3 (.mv (.c (.int .i64 1048576)))])
  (.seq (.reg [o 7 (.mv (.t 0)), o 8 (.mv (.t 3)), o 9 (.call 19 [(.t 7), (.t 8)]), o 3 (.mv (.t 9))])
  (.seq (.seq (.reg [o 10 (.mv (.t 3)), o 11 (.bin .lss (.t 10) (.c (.int .i64 0)))])
  (.cond (.t 11) (.seq (.reg [o 2 (.mv (.c (.bool true)))])
   (.ret)) (.skip)))
  (.seq (.reg [o 12 (.mv (.t 0)), o 13 (.call 21 [(.t 12)]), o 14 (.call 20 [(.t 13)]), o 4 (.mv (.t 14))])
  (.seq (.reg [o 15 (.mv (.t 0)), o 16 (.call 21 [(.t 15)]), o 5 (.mv (.t 16))])
  (.seq (.reg [o 17 (.mv (.t 5)), o 18 (.call 22 [(.t 17)]), o 6 (.mv (.t 18))])
  (.seq (.seq (.reg [o 19 (.mv (.t 6)), o 20 (.mv (.t 4)), o 21 (.binb .neq (.t 19) (.t 20))])
  (.cond (.t 21) (.seq (.reg [o 2 (.mv (.c (.bool false)))])
   (.ret)) (.skip)))
  (.seq (.seq (.reg [o 22 (.mv (.t 5)), o 23 (.mv (.t 0)), o 24 (.call 21 [(.t 23)]), o 25 (.call 23 [(.t 22), (.t 24)]), o 26 (.un .not (.t 25))])
  (.cond (.t 26) (.seq (.reg [o 2 (.mv (.c (.bool false)))])
   (.ret)) (.skip)))
  (.seq (.reg [o 2 (.mv (.c (.bool true)))])
  (.ret)))))))))),
  [.tmp 2]⟩
/- loop.example/g03011/laws.FnExactDropHolds -/
def F4 : Fun := ⟨74,
  .seq (.reg [o 4 (.mv (.c (.bool false)))])
  (.seq (.reg [o 5 (.mv (.c (.int .i64 1048576)))])
  (.seq (.reg [o 13 (.mv (.t 0)), o 14 (.mv (.t 5)), o 15 (.call 19 [(.t 13), (.t 14)]), o 5 (.mv (.t 15))])
  (.seq (.seq (.reg [o 16 (.mv (.t 5)), o 17 (.bin .lss (.t 16) (.c (.int .i64 0)))])
  (.cond (.t 17) (.seq (.reg [o 4 (.mv (.c (.bool true)))])
   (.ret)) (.skip)))
  (.seq (.reg [o 18 (.mv (.t 0)), o 19 (.call 21 [(.t 18)]), o 20 (.mv (.t 1)), o 21 (.call 24 [(.t 19), (.t 20)]), o 6 (.mv (.t 21))])
  (.seq (.reg [o 22 (.mv (.t 0)), o 23 (.call 21 [(.t 22)]), o 7 (.mv (.t 23))])
  (.seq (.reg [o 24 (.mv (.t 7)), o 25 (.mv (.t 1)), o 26 (.call 25 [(.t 24), (.t 25)]), o 8 (.mv (.t 26))])
  (.seq (.seq (.reg [o 27 (.mv (.t 8)), o 28 (.mv (.t 6)), o 29 (.call 23 [(.t 27), (.t 28)]), o 30 (.un .not (.t 29))])
  (.cond (.t 30) (.seq (.reg [o 4 (.mv (.c (.bool false)))])
   (.ret)) (.skip)))
  (.seq (.seq (.reg [o 31 (.mv (.t 7)), o 32 (.mv (.t 0)), o 33 (.call 21 [(.t 32)]), o 34 (.call 23 [(.t 31), (.t 33)]), o 35 (.un .not (.t 34))])
  (.cond (.t 35) (.seq (.reg [o 4 (.mv (.c (.bool false)))])
   (.ret)) (.skip)))
  (.seq (.reg [o 9 (.mv (.c (.int .i64 1)))])
  (.seq (.reg [o 36 (.mv (.t 7)), o 37 (.mv (.t 9)), o 38 (.call 26 [(.t 36), (.t 37)]), o 9 (.mv (.t 38))])
  (.seq (.seq (.reg [o 39 (.mv (.t 9)), o 40 (.bin .lss (.t 39) (.c (.int .i64 0))), o 41 (.mv (.t 40)), og 42 (.mv (.t 8)) 41 false, og 43 (.mv (.t 6)) 41 false, og 44 (.call 23 [(.t 42), (.t 43)]) 41 false, og 45 (.un .not (.t 44)) 41 false, o 46 (.pick (.t 41) (.c (.bool true)) (.t 45))])
  (.cond (.t 46) (.seq (.reg [o 4 (.mv (.c (.bool false)))])
   (.ret)) (.skip)))
  (.seq (.reg [o 10 (.mv (.c (.int .i64 1)))])
  (.seq (.reg [o 47 (.mv (.t 8)), o 48 (.mv (.t 10)), o 49 (.call 26 [(.t 47), (.t 48)]), o 10 (.mv (.t 49))])
  (.seq (.reg [o 11 (.mv (.c (.int .i64 1)))])
  (.seq (.reg [o 50 (.mv (.t 8)), o 51 (.mv (.t 11)), o 52 (.call 27 [(.t 50), (.t 51)]), o 11 (.mv (.t 52))])
  (.seq (.seq (.reg [o 53 (.mv (.t 11)), o 54 (.bin .lss (.t 53) (.c (.int .i64 0)))])
  (.cond (.t 54) (.seq (.reg [o 4 (.mv (.c (.bool false)))])
   (.ret)) (.skip)))
  (.seq (.seq (.reg [o 55 (.mv (.t 11)), o 56 (.mv (.t 10)), o 57 (.bin .neq (.t 55) (.t 56))])
  (.cond (.t 57) (.seq (.reg [o 4 (.mv (.c (.bool false)))])
   (.ret)) (.skip)))
  (.seq (.reg [o 58 (.mv (.t 0)), o 59 (.call 21 [(.t 58)]), o 60 (.mv (.t 1)), o 61 (.call 25 [(.t 59), (.t 60)]), o 12 (.mv (.t 61))])
  (.seq (.seq (.reg [o 62 (.mv (.t 12)), o 63 (.mv (.t 6)), o 64 (.call 23 [(.t 62), (.t 63)]), o 65 (.un .not (.t 64))])
  (.cond (.t 65) (.seq (.reg [o 4 (.mv (.c (.bool false)))])
   (.ret)) (.skip)))
  (.seq (.reg [o 11 (.mv (.c (.int .i64 1)))])
  (.seq (.reg [o 66 (.mv (.t 8)), o 67 (.mv (.t 11)), o 68 (.call 27 [(.t 66), (.t 67)]), o 11 (.mv (.t 68))])
  (.seq (.seq (.reg [o 69 (.mv (.t 11)), o 70 (.bin .lss (.t 69) (.c (.int .i64 0)))])
  (.cond (.t 70) (.seq (.reg [o 4 (.mv (.c (.bool false)))])
   (.ret)) (.skip)))
  (.seq (.seq (.reg [o 71 (.mv (.t 11)), o 72 (.mv (.t 10)), o 73 (.bin .neq (.t 71) (.t 72))])
  (.cond (.t 73) (.seq (.reg [o 4 (.mv (.c (.bool false)))])
   (.ret)) (.skip)))
  (.seq (.reg [o 4 (.mv (.c (.bool true)))])
  (.ret))))))))))))))))))))))))),
  [.tmp 4]⟩
/- loop.example/g03011/laws.FnExactSweepSessions -/
def F5 : Fun := ⟨79,
  .seq (.reg [o 6 (.mv (.c (.bool false)))])
  (.seq (.reg [o 7 (.mv (.c (.int .i64 1048576)))])
  (.seq (.reg [o 15 (.mv (.t 0)), o 16 (.mv (.t 7)), o 17 (.call 19 [(.t 15), (.t 16)]), o 7 (.mv (.t 17))])
  (.seq (.seq (.reg [o 18 (.mv (.t 7)), o 19 (.bin .lss (.t 18) (.c (.int .i64 0)))])
  (.cond (.t 19) (.seq (.reg [o 6 (.mv (.c (.bool true)))])
   (.ret)) (.skip)))
  (.seq (.reg [o 20 (.mv (.t 0)), o 21 (.call 21 [(.t 20)]), o 22 (.mv (.t 1)), o 23 (.mv (.t 2)), o 24 (.call 28 [(.t 21), (.t 22), (.t 23)]), o 8 (.mv (.t 24))])
  (.seq (.reg [o 25 (.mv (.t 0)), o 26 (.call 21 [(.t 25)]), o 9 (.mv (.t 26))])
  (.seq (.reg [o 27 (.mv (.t 9)), o 28 (.mv (.t 1)), o 29 (.mv (.t 2)), o 30 (.call 29 [(.t 27), (.t 28), (.t 29)]), o 10 (.mv (.t 30))])
  (.seq (.seq (.reg [o 31 (.mv (.t 10)), o 32 (.mv (.t 8)), o 33 (.call 23 [(.t 31), (.t 32)]), o 34 (.un .not (.t 33))])
  (.cond (.t 34) (.seq (.reg [o 6 (.mv (.c (.bool false)))])
   (.ret)) (.skip)))
  (.seq (.seq (.reg [o 35 (.mv (.t 9)), o 36 (.mv (.t 0)), o 37 (.call 21 [(.t 36)]), o 38 (.call 23 [(.t 35), (.t 37)]), o 39 (.un .not (.t 38))])
  (.cond (.t 39) (.seq (.reg [o 6 (.mv (.c (.bool false)))])
   (.ret)) (.skip)))
  (.seq (.reg [o 11 (.mv (.c (.int .i64 1)))])
  (.seq (.reg [o 40 (.mv (.t 9)), o 41 (.mv (.t 11)), o 42 (.call 26 [(.t 40), (.t 41)]), o 11 (.mv (.t 42))])
  (.seq (.seq (.reg [o 43 (.mv (.t 11)), o 44 (.bin .lss (.t 43) (.c (.int .i64 0))), o 45 (.mv (.t 44)), og 46 (.mv (.t 10)) 45 false, og 47 (.mv (.t 8)) 45 false, og 48 (.call 23 [(.t 46), (.t 47)]) 45 false, og 49 (.un .not (.t 48)) 45 false, o 50 (.pick (.t 45) (.c (.bool true)) (.t 49))])
  (.cond (.t 50) (.seq (.reg [o 6 (.mv (.c (.bool false)))])
   (.ret)) (.skip)))
  (.seq (.reg [o 12 (.mv (.c (.int .i64 1)))])
  (.seq (.reg [o 51 (.mv (.t 10)), o 52 (.mv (.t 12)), o 53 (.call 26 [(.t 51), (.t 52)]), o 12 (.mv (.t 53))])
  (.seq (.reg [o 13 (.mv (.c (.int .i64 1)))])
  (.seq (.reg [o 54 (.mv (.t 10)), o 55 (.mv (.t 13)), o 56 (.call 27 [(.t 54), (.t 55)]), o 13 (.mv (.t 56))])
  (.seq (.seq (.reg [o 57 (.mv (.t 13)), o 58 (.bin .lss (.t 57) (.c (.int .i64 0)))])
  (.cond (.t 58) (.seq (.reg [o 6 (.mv (.c (.bool false)))])
   (.ret)) (.skip)))
  (.seq (.seq (.reg [o 59 (.mv (.t 13)), o 60 (.mv (.t 12)), o 61 (.bin .neq (.t 59) (.t 60))])
  (.cond (.t 61) (.seq (.reg [o 6 (.mv (.c (.bool false)))])
   (.ret)) (.skip)))
  (.seq (.reg [o 62 (.mv (.t 0)), o 63 (.call 21 [(.t 62)]), o 64 (.mv (.t 1)), o 65 (.mv (.t 2)), o 66 (.call 29 [(.t 63), (.t 64), (.t 65)]), o 14 (.mv (.t 66))])
  (.seq (.seq (.reg [o 67 (.mv (.t 14)), o 68 (.mv (.t 8)), o 69 (.call 23 [(.t 67), (.t 68)]), o 70 (.un .not (.t 69))])
  (.cond (.t 70) (.seq (.reg [o 6 (.mv (.c (.bool false)))])
   (.ret)) (.skip)))
  (.seq (.reg [o 13 (.mv (.c (.int .i64 1)))])
  (.seq (.reg [o 71 (.mv (.t 10)), o 72 (.mv (.t 13)), o 73 (.call 27 [(.t 71), (.t 72)]), o 13 (.mv (.t 73))])
  (.seq (.seq (.reg [o 74 (.mv (.t 13)), o 75 (.bin .lss (.t 74) (.c (.int .i64 0)))])
  (.cond (.t 75) (.seq (.reg [o 6 (.mv (.c (.bool false)))])
   (.ret)) (.skip)))
  (.seq (.seq (.reg [o 76 (.mv (.t 13)), o 77 (.mv (.t 12)), o 78 (.bin .neq (.t 76) (.t 77))])
  (.cond (.t 78) (.seq (.reg [o 6 (.mv (.c (.bool false)))])
   (.ret)) (.skip)))
  (.seq (.reg [o 6 (.mv (.c (.bool true)))])
  (.ret))))))))))))))))))))))))),
  [.tmp 6]⟩
/- loop.example/g03011/laws.FnExactReadLine -/
def F6 : Fun := ⟨106,
  .seq (.reg [o 6 (.mv (.c (.bool false)))])
  (.seq (.reg [o 7 (.mv (.c (.int .i64 1048576)))])
  (.seq (.reg [o 18 (.mv (.t 0)), o 19 (.mv (.t 7)), o 20 (.call 30 [(.t 18), (.t 19)]), o 7 (.mv (.t 20))])
  (.seq (.seq (.reg [o 21 (.mv (.t 7)), o 22 (.bin .lss (.t 21) (.c (.int .i64 0)))])
  (.cond (.t 22) (.seq (.reg [o 6 (.mv (.c (.bool true)))])
   (.ret)) (.skip)))
  (.seq (.reg [o 24 (.mv (.t 0)), o 25 (.call 32 [(.t 24)]), o 26 (.mv (.t 1)), o 27 (.mv (.t 2)), o 28 (.call 31 [(.t 25), (.t 26), (.t 27)]), o 23 (.mv (.t 28)), o 29 (.extract (.t 23) 0), o 30 (.extract (.t 23) 1), o 8 (.mv (.t 29)), o 9 (.mv (.t 30))])
  (.seq (.reg [o 31 (.mv (.t 0)), o 32 (.call 32 [(.t 31)]), o 10 (.mv (.t 32))])
  (.seq (.reg [o 34 (.mv (.t 10)), o 35 (.mv (.t 1)), o 36 (.mv (.t 2)), o 37 (.call 33 [(.t 34), (.t 35), (.t 36)]), o 33 (.mv (.t 37)), o 38 (.extract (.t 33) 0), o 39 (.extract (.t 33) 1), o 11 (.mv (.t 38)), o 12 (.mv (.t 39))])
  (.seq (.seq (.reg [o 40 (.mv (.t 11)), o 41 (.mv (.t 8)), o 42 (.call 34 [(.t 40), (.t 41)]), o 43 (.un .not (.t 42)), o 44 (.mv (.t 43)), og 45 (.mv (.t 12)) 44 false, og 46 (.mv (.t 9)) 44 false, og 47 (.binb .neq (.t 45) (.t 46)) 44 false, o 48 (.pick (.t 44) (.c (.bool true)) (.t 47))])
  (.cond (.t 48) (.seq (.reg [o 6 (.mv (.c (.bool false)))])
   (.ret)) (.skip)))
  (.seq (.seq (.reg [o 49 (.mv (.t 10)), o 50 (.mv (.t 0)), o 51 (.call 32 [(.t 50)]), o 52 (.call 35 [(.t 49), (.t 51)]), o 53 (.un .not (.t 52))])
  (.cond (.t 53) (.seq (.reg [o 6 (.mv (.c (.bool false)))])
   (.ret)) (.skip)))
  (.seq (.reg [o 13 (.mv (.c (.int .i64 1)))])
  (.seq (.reg [o 54 (.mv (.t 10)), o 55 (.mv (.t 13)), o 56 (.call 36 [(.t 54), (.t 55)]), o 13 (.mv (.t 56))])
  (.seq (.seq (.reg [o 57 (.mv (.t 13)), o 58 (.bin .lss (.t 57) (.c (.int .i64 0))), o 59 (.mv (.t 58)), og 60 (.mv (.t 11)) 59 false, og 61 (.mv (.t 8)) 59 false, og 62 (.call 34 [(.t 60), (.t 61)]) 59 false, og 63 (.un .not (.t 62)) 59 false, o 64 (.pick (.t 59) (.c (.bool true)) (.t 63)), o 65 (.mv (.t 64)), og 66 (.mv (.t 12)) 65 false, og 67 (.mv (.t 9)) 65 false, og 68 (.binb .neq (.t 66) (.t 67)) 65 false, o 69 (.pick (.t 65) (.c (.bool true)) (.t 68))])
  (.cond (.t 69) (.seq (.reg [o 6 (.mv (.c (.bool false)))])
   (.ret)) (.skip)))
  (.seq (.reg [o 14 (.mv (.c (.int .i64 1)))])
  (.seq (.reg [o 70 (.mv (.t 11)), o 71 (.mv (.t 14)), o 72 (.call 37 [(.t 70), (.t 71)]), o 14 (.mv (.t 72))])
  (.seq (.reg [o 15 (.mv (.c (.int .i64 1)))])
  (.seq (.reg [o 73 (.mv (.t 11)), o 74 (.mv (.t 15)), o 75 (.call 38 [(.t 73), (.t 74)]), o 15 (.mv (.t 75))])
  (.seq (.seq (.reg [o 76 (.mv (.t 15)), o 77 (.bin .lss (.t 76) (.c (.int .i64 0)))])
  (.cond (.t 77) (.seq (.reg [o 6 (.mv (.c (.bool false)))])
   (.ret)) (.skip)))
  (.seq (.seq (.reg [o 78 (.mv (.t 15)), o 79 (.mv (.t 14)), o 80 (.bin .neq (.t 78) (.t 79))])
  (.cond (.t 80) (.seq (.reg [o 6 (.mv (.c (.bool false)))])
   (.ret)) (.skip)))
  (.seq (.reg [o 82 (.mv (.t 0)), o 83 (.call 32 [(.t 82)]), o 84 (.mv (.t 1)), o 85 (.mv (.t 2)), o 86 (.call 33 [(.t 83), (.t 84), (.t 85)]), o 81 (.mv (.t 86)), o 87 (.extract (.t 81) 0), o 88 (.extract (.t 81) 1), o 16 (.mv (.t 87)), o 17 (.mv (.t 88))])
  (.seq (.seq (.reg [o 89 (.mv (.t 16)), o 90 (.mv (.t 8)), o 91 (.call 34 [(.t 89), (.t 90)]), o 92 (.un .not (.t 91)), o 93 (.mv (.t 92)), og 94 (.mv (.t 17)) 93 false, og 95 (.mv (.t 9)) 93 false, og 96 (.binb .neq (.t 94) (.t 95)) 93 false, o 97 (.pick (.t 93) (.c (.bool true)) (.t 96))])
  (.cond (.t 97) (.seq (.reg [o 6 (.mv (.c (.bool false)))])
   (.ret)) (.skip)))
  (.seq (.reg [o 15 (.mv (.c (.int .i64 1)))])
  (.seq (.reg [o 98 (.mv (.t 11)), o 99 (.mv (.t 15)), o 100 (.call 38 [(.t 98), (.t 99)]), o 15 (.mv (.t 100))])
  (.seq (.seq (.reg [o 101 (.mv (.t 15)), o 102 (.bin .lss (.t 101) (.c (.int .i64 0)))])
  (.cond (.t 102) (.seq (.reg [o 6 (.mv (.c (.bool false)))])
   (.ret)) (.skip)))
  (.seq (.seq (.reg [o 103 (.mv (.t 15)), o 104 (.mv (.t 14)), o 105 (.bin .neq (.t 103) (.t 104))])
  (.cond (.t 105) (.seq (.reg [o 6 (.mv (.c (.bool false)))])
   (.ret)) (.skip)))
  (.seq (.reg [o 6 (.mv (.c (.bool true)))])
  (.ret))))))))))))))))))))))))),
  [.tmp 6]⟩
/- loop.example/g03011/laws.FnExactSaveSession -/
def F7 : Fun := ⟨122,
  .seq (.reg [o 10 (.mv (.c (.bool false)))])
  (.seq (.seq (.reg [o 22 (.mv (.t 1)), o 23 (.lenS (.t 22)), o 24 (.bin .gtr (.t 23) (.c (.int .i64 1048576)))])
  (.cond (.t 24) (.seq (.reg [o 10 (.mv (.c (.bool true)))])
   (.ret)) (.skip)))
  (.seq (.seq (.reg [o 25 (.mv (.t 3)), o 26 (.lenS (.t 25)), o 27 (.bin .gtr (.t 26) (.c (.int .i64 1048576)))])
  (.cond (.t 27) (.seq (.reg [o 10 (.mv (.c (.bool true)))])
   (.ret)) (.skip)))
  (.seq (.reg [o 11 (.mv (.c (.int .i64 1048576)))])
  (.seq (.reg [o 28 (.mv (.t 0)), o 29 (.mv (.t 11)), o 30 (.call 19 [(.t 28), (.t 29)]), o 11 (.mv (.t 30))])
  (.seq (.seq (.reg [o 31 (.mv (.t 11)), o 32 (.bin .lss (.t 31) (.c (.int .i64 0)))])
  (.cond (.t 32) (.seq (.reg [o 10 (.mv (.c (.bool true)))])
   (.ret)) (.skip)))
  (.seq (.reg [o 34 (.mv (.t 0)), o 35 (.call 21 [(.t 34)]), o 36 (.mv (.t 1)), o 37 (.mv (.t 2)), o 38 (.mv (.t 3)), o 39 (.mv (.t 4)), o 40 (.call 39 [(.t 35), (.t 36), (.t 37), (.t 38), (.t 39)]), o 33 (.mv (.t 40)), o 41 (.extract (.t 33) 0), o 42 (.extract (.t 33) 1), o 12 (.mv (.t 41)), o 13 (.mv (.t 42))])
  (.seq (.reg [o 43 (.mv (.t 0)), o 44 (.call 21 [(.t 43)]), o 14 (.mv (.t 44))])
  (.seq (.reg [o 46 (.mv (.t 14)), o 47 (.mv (.t 1)), o 48 (.mv (.t 2)), o 49 (.mv (.t 3)), o 50 (.mv (.t 4)), o 51 (.call 40 [(.t 46), (.t 47), (.t 48), (.t 49), (.t 50)]), o 45 (.mv (.t 51)), o 52 (.extract (.t 45) 0), o 53 (.extract (.t 45) 1), o 15 (.mv (.t 52)), o 16 (.mv (.t 53))])
  (.seq (.seq (.reg [o 54 (.mv (.t 15)), o 55 (.mv (.t 12)), o 56 (.call 23 [(.t 54), (.t 55)]), o 57 (.un .not (.t 56)), o 58 (.mv (.t 57)), og 59 (.mv (.t 16)) 58 false, og 60 (.mv (.t 13)) 58 false, og 61 (.binb .neq (.t 59) (.t 60)) 58 false, o 62 (.pick (.t 58) (.c (.bool true)) (.t 61))])
  (.cond (.t 62) (.seq (.reg [o 10 (.mv (.c (.bool false)))])
   (.ret)) (.skip)))
  (.seq (.seq (.reg [o 63 (.mv (.t 14)), o 64 (.mv (.t 0)), o 65 (.call 21 [(.t 64)]), o 66 (.call 23 [(.t 63), (.t 65)]), o 67 (.un .not (.t 66))])
  (.cond (.t 67) (.seq (.reg [o 10 (.mv (.c (.bool false)))])
   (.ret)) (.skip)))
  (.seq (.reg [o 17 (.mv (.c (.int .i64 1)))])
  (.seq (.reg [o 68 (.mv (.t 14)), o 69 (.mv (.t 17)), o 70 (.call 26 [(.t 68), (.t 69)]), o 17 (.mv (.t 70))])
  (.seq (.seq (.reg [o 71 (.mv (.t 17)), o 72 (.bin .lss (.t 71) (.c (.int .i64 0))), o 73 (.mv (.t 72)), og 74 (.mv (.t 15)) 73 false, og 75 (.mv (.t 12)) 73 false, og 76 (.call 23 [(.t 74), (.t 75)]) 73 false, og 77 (.un .not (.t 76)) 73 false, o 78 (.pick (.t 73) (.c (.bool true)) (.t 77)), o 79 (.mv (.t 78)), og 80 (.mv (.t 16)) 79 false, og 81 (.mv (.t 13)) 79 false, og 82 (.binb .neq (.t 80) (.t 81)) 79 false, o 83 (.pick (.t 79) (.c (.bool true)) (.t 82))])
  (.cond (.t 83) (.seq (.reg [o 10 (.mv (.c (.bool false)))])
   (.ret)) (.skip)))
  (.seq (.reg [o 18 (.mv (.c (.int .i64 1)))])
  (.seq (.reg [o 84 (.mv (.t 15)), o 85 (.mv (.t 18)), o 86 (.call 26 [(.t 84), (.t 85)]), o 18 (.mv (.t 86))])
  (.seq (.reg [o 19 (.mv (.c (.int .i64 1)))])
  (.seq (.reg [o 87 (.mv (.t 15)), o 88 (.mv (.t 19)), o 89 (.call 27 [(.t 87), (.t 88)]), o 19 (.mv (.t 89))])
  (.seq (.seq (.reg [o 90 (.mv (.t 19)), o 91 (.bin .lss (.t 90) (.c (.int .i64 0)))])
  (.cond (.t 91) (.seq (.reg [o 10 (.mv (.c (.bool false)))])
   (.ret)) (.skip)))
  (.seq (.seq (.reg [o 92 (.mv (.t 19)), o 93 (.mv (.t 18)), o 94 (.bin .neq (.t 92) (.t 93))])
  (.cond (.t 94) (.seq (.reg [o 10 (.mv (.c (.bool false)))])
   (.ret)) (.skip)))
  (.seq (.reg [o 96 (.mv (.t 0)), o 97 (.call 21 [(.t 96)]), o 98 (.mv (.t 1)), o 99 (.mv (.t 2)), o 100 (.mv (.t 3)), o 101 (.mv (.t 4)), o 102 (.call 40 [(.t 97), (.t 98), (.t 99), (.t 100), (.t 101)]), o 95 (.mv (.t 102)), o 103 (.extract (.t 95) 0), o 104 (.extract (.t 95) 1), o 20 (.mv (.t 103)), o 21 (.mv (.t 104))])
  (.seq (.seq (.reg [o 105 (.mv (.t 20)), o 106 (.mv (.t 12)), o 107 (.call 23 [(.t 105), (.t 106)]), o 108 (.un .not (.t 107)), o 109 (.mv (.t 108)), og 110 (.mv (.t 21)) 109 false, og 111 (.mv (.t 13)) 109 false, og 112 (.binb .neq (.t 110) (.t 111)) 109 false, o 113 (.pick (.t 109) (.c (.bool true)) (.t 112))])
  (.cond (.t 113) (.seq (.reg [o 10 (.mv (.c (.bool false)))])
   (.ret)) (.skip)))
  (.seq (.reg [o 19 (.mv (.c (.int .i64 1)))])
  (.seq (.reg [o 114 (.mv (.t 15)), o 115 (.mv (.t 19)), o 116 (.call 27 [(.t 114), (.t 115)]), o 19 (.mv (.t 116))])
  (.seq (.seq (.reg [o 117 (.mv (.t 19)), o 118 (.bin .lss (.t 117) (.c (.int .i64 0)))])
  (.cond (.t 118) (.seq (.reg [o 10 (.mv (.c (.bool false)))])
   (.ret)) (.skip)))
  (.seq (.seq (.reg [o 119 (.mv (.t 19)), o 120 (.mv (.t 18)), o 121 (.bin .neq (.t 119) (.t 120))])
  (.cond (.t 121) (.seq (.reg [o 10 (.mv (.c (.bool false)))])
   (.ret)) (.skip)))
  (.seq (.reg [o 10 (.mv (.c (.bool true)))])
  (.ret))))))))))))))))))))))))))),
  [.tmp 10]⟩
/- loop.example/g03011/laws.FnSweeps -/
def F8 : Fun := ⟨109,
  .seq (.reg [o 2 (.mv (.c (.bool false)))])
  (.seq (.seq (.reg [o 11 (.mv (.t 0)), o 12 (.call 41 [(.t 11)])])
  (.cond (.t 12) (.seq (.reg [o 2 (.mv (.c (.bool true)))])
   (.ret)) (.skip)))
  (.seq (.reg [o 14 (.mv (.t 0)), o 15 (.call 42 [(.t 14)]), o 13 (.mv (.t 15)), o 16 (.extract (.t 13) 0), o 17 (.extract (.t 13) 1), o 18 (.extract (.t 13) 2), o 3 (.mv (.t 16)), o 4 (.mv (.t 17)), o 5 (.mv (.t 18))])
  (.seq (.reg [o 19 (.mv (.t 3)), o 20 (.mv (.t 4)), o 21 (.mv (.t 5)), o 22 (.call 29 [(.t 19), (.t 20), (.t 21)]), o 6 (.mv (.t 22))])
  (.seq (.seq (.reg [o 23 (.mv (.t 4)), o 24 (.bin .lss (.t 23) (.c (.int .i64 0))), o 25 (.mv (.t 24)), og 26 (.mv (.t 4)) 25 false, og 27 (.bin .gtr (.t 26) (.c (.int .i64 1000000000000))) 25 false, o 28 (.pick (.t 25) (.c (.bool true)) (.t 27)), o 29 (.mv (.t 28)), og 30 (.mv (.t 5)) 29 false, og 31 (.bin .lss (.t 30) (.c (.int .i64 0))) 29 false, o 32 (.pick (.t 29) (.c (.bool true)) (.t 31)), o 33 (.mv (.t 32)), og 34 (.mv (.t 5)) 33 false, og 35 (.bin .gtr (.t 34) (.c (.int .i64 1000000000000))) 33 false, o 36 (.pick (.t 33) (.c (.bool true)) (.t 35))])
  (.cond (.t 36) (.seq (.reg [o 37 (.mv (.t 6)), o 38 (.lenL (.t 37)), o 39 (.mv (.t 3)), o 40 (.lenL (.t 39)), o 41 (.bin .eql (.t 38) (.t 40)), o 2 (.mv (.t 41))])
   (.ret)) (.skip)))
  (.seq (.reg [o 7 (.mv (.c (.int .i64 0)))])
  (.seq (.seq (.reg [o 8 (.mv (.c (.int .i64 0)))])
  (.block 0 (.loop (.seq (.seq (.reg [o 42 (.mv (.t 8)), o 43 (.mv (.t 3)), o 44 (.lenL (.t 43)), o 45 (.bin .lss (.t 42) (.t 44))])
    (.cond (.t 45) (.skip) (.exit 0)))
    (.seq (.block 1 (.seq (.reg [o 48 (.mv (.t 3)), o 49 (.mv (.t 8)), o 50 (.iaddr 4 (.t 48) (.t 49)), o 51 (.faddr 2 (.t 50)), o 52 (.load none (.t 51)), o 53 (.bin .neq (.t 52) (.c (.int .i64 0))), o 54 (.mv (.t 53)), og 55 (.mv (.t 3)) 54 false, og 56 (.mv (.t 8)) 54 false, og 57 (.iaddr 4 (.t 55) (.t 56)) 54 false, og 58 (.faddr 3 (.t 57)) 54 false, og 59 (.load none (.t 58)) 54 false, og 60 (.mv (.t 4)) 54 false, og 61 (.mv (.t 5)) 54 false, og 62 (.bin .sub (.t 60) (.t 61)) 54 false, og 63 (.bin .geq (.t 59) (.t 62)) 54 false, o 64 (.pick (.t 54) (.c (.bool true)) (.t 63)), o 9 (.mv (.t 64))])
     (.seq (.seq (.reg [o 65 (.mv (.t 9)), o 66 (.mv (.t 65)), og 67 (.mv (.t 7)) 66 true, og 68 (.mv (.t 6)) 66 true, og 69 (.lenL (.t 68)) 66 true, og 70 (.bin .geq (.t 67) (.t 69)) 66 true, og 71 (.mv (.t 70)) 66 true, og 72 (.mv (.t 6)) 71 false, og 73 (.mv (.t 7)) 71 false, og 74 (.iaddr 4 (.t 72) (.t 73)) 71 false, og 75 (.load (some 4) (.t 74)) 71 false, og 76 (.mv (.t 3)) 71 false, og 77 (.mv (.t 8)) 71 false, og 78 (.iaddr 4 (.t 76) (.t 77)) 71 false, og 79 (.load (some 4) (.t 78)) 71 false, og 80 (.beq true [1, 1, 0, 0] (.t 75) (.t 79)) 71 false, og 81 (.pick (.t 71) (.c (.bool true)) (.t 80)) 66 true, o 82 (.pick (.t 66) (.t 81) (.c (.bool false)))])
     (.cond (.t 82) (.seq (.reg [o 2 (.mv (.c (.bool false)))])
      (.ret)) (.skip)))
     (.seq (.reg [o 83 (.mv (.t 9))])
     (.cond (.t 83) (.reg [o 84 (.mv (.t 7)), o 85 (.bin .add (.t 84) (.c (.int .i64 1))), o 7 (.mv (.t 85))]) (.skip))))))
    (.reg [o 46 (.mv (.t 8)), o 47 (.bin .add (.t 46) (.c (.int .i64 1))), o 8 (.mv (.t 47))]))))))
  (.seq (.reg [o 86 (.mv (.t 6)), o 87 (.mv (.t 4)), o 88 (.mv (.t 5)), o 89 (.call 29 [(.t 86), (.t 87), (.t 88)]), o 10 (.mv (.t 89))])
  (.seq (.reg [o 90 (.mv (.t 6)), o 91 (.lenL (.t 90)), o 92 (.mv (.t 7)), o 93 (.bin .eql (.t 91) (.t 92)), o 94 (.mv (.t 93)), og 95 (.mv (.t 10)) 94 true, og 96 (.lenL (.t 95)) 94 true, og 97 (.mv (.t 7)) 94 true, og 98 (.bin .eql (.t 96) (.t 97)) 94 true, o 99 (.pick (.t 94) (.t 98) (.c (.bool false))), o 100 (.mv (.t 99)), og 101 (.mv (.t 3)) 100 true, og 102 (.call 20 [(.t 101)]) 100 true, og 103 (.un .not (.t 102)) 100 true, og 104 (.mv (.t 103)) 100 true, og 105 (.mv (.t 6)) 104 false, og 106 (.call 22 [(.t 105)]) 104 false, og 107 (.pick (.t 104) (.c (.bool true)) (.t 106)) 100 true, o 108 (.pick (.t 100) (.t 107) (.c (.bool false))), o 2 (.mv (.t 108))])
  (.ret))))))))),
  [.tmp 2]⟩
/- loop.example/g03011/laws.FnExactFormatCookies -/
def F9 : Fun := ⟨27,
  .seq (.reg [o 2 (.mv (.c (.bool false)))])
  (.seq (.reg [o 3 (.mv (.c (.int .i64 1048576)))])
  (.seq (.reg [o 7 (.mv (.t 0)), o 8 (.mv (.t 3)), o 9 (.call 43 [(.t 7), (.t 8)]), o 3 (.mv (.t 9))])
  (.seq (.seq (.reg [o 10 (.mv (.t 3)), o 11 (.bin .lss (.t 10) (.c (.int .i64 0)))])
  (.cond (.t 11) (.seq (.reg [o 2 (.mv (.c (.bool true)))])
   (.ret)) (.skip)))
  (.seq (.reg [o 12 (.mv (.t 0)), o 13 (.call 45 [(.t 12)]), o 14 (.call 44 [(.t 13)]), o 4 (.mv (.t 14))])
  (.seq (.reg [o 15 (.mv (.t 0)), o 16 (.call 45 [(.t 15)]), o 5 (.mv (.t 16))])
  (.seq (.reg [o 17 (.mv (.t 5)), o 18 (.call 46 [(.t 17)]), o 6 (.mv (.t 18))])
  (.seq (.seq (.reg [o 19 (.mv (.t 6)), o 20 (.mv (.t 4)), o 21 (.bin .neq (.t 19) (.t 20))])
  (.cond (.t 21) (.seq (.reg [o 2 (.mv (.c (.bool false)))])
   (.ret)) (.skip)))
  (.seq (.seq (.reg [o 22 (.mv (.t 5)), o 23 (.mv (.t 0)), o 24 (.call 45 [(.t 23)]), o 25 (.call 47 [(.t 22), (.t 24)]), o 26 (.un .not (.t 25))])
  (.cond (.t 26) (.seq (.reg [o 2 (.mv (.c (.bool false)))])
   (.ret)) (.skip)))
  (.seq (.reg [o 2 (.mv (.c (.bool true)))])
  (.ret)))))))))),
  [.tmp 2]⟩
/- loop.example/g03011/laws.FnExactFormatQuery -/
def F10 : Fun := ⟨27,
  .seq (.reg [o 2 (.mv (.c (.bool false)))])
  (.seq (.reg [o 3 (.mv (.c (.int .i64 1048576)))])
  (.seq (.reg [o 7 (.mv (.t 0)), o 8 (.mv (.t 3)), o 9 (.call 43 [(.t 7), (.t 8)]), o 3 (.mv (.t 9))])
  (.seq (.seq (.reg [o 10 (.mv (.t 3)), o 11 (.bin .lss (.t 10) (.c (.int .i64 0)))])
  (.cond (.t 11) (.seq (.reg [o 2 (.mv (.c (.bool true)))])
   (.ret)) (.skip)))
  (.seq (.reg [o 12 (.mv (.t 0)), o 13 (.call 45 [(.t 12)]), o 14 (.call 48 [(.t 13)]), o 4 (.mv (.t 14))])
  (.seq (.reg [o 15 (.mv (.t 0)), o 16 (.call 45 [(.t 15)]), o 5 (.mv (.t 16))])
  (.seq (.reg [o 17 (.mv (.t 5)), o 18 (.call 49 [(.t 17)]), o 6 (.mv (.t 18))])
  (.seq (.seq (.reg [o 19 (.mv (.t 6)), o 20 (.mv (.t 4)), o 21 (.bin .neq (.t 19) (.t 20))])
  (.cond (.t 21) (.seq (.reg [o 2 (.mv (.c (.bool false)))])
   (.ret)) (.skip)))
  (.seq (.seq (.reg [o 22 (.mv (.t 5)), o 23 (.mv (.t 0)), o 24 (.call 45 [(.t 23)]), o 25 (.call 47 [(.t 22), (.t 24)]), o 26 (.un .not (.t 25))])
  (.cond (.t 26) (.seq (.reg [o 2 (.mv (.c (.bool false)))])
   (.ret)) (.skip)))
  (.seq (.reg [o 2 (.mv (.c (.bool true)))])
  (.ret)))))))))),
  [.tmp 2]⟩
/- loop.example/g03011/laws.FnExactWriteLine -/
def F11 : Fun := ⟨127,
  .seq (.reg [o 8 (.mv (.c (.bool false)))])
  (.seq (.seq (.reg [o 21 (.mv (.t 3)), o 22 (.lenL (.t 21)), o 23 (.bin .gtr (.t 22) (.c (.int .i64 1048576)))])
  (.cond (.t 23) (.seq (.reg [o 8 (.mv (.c (.bool true)))])
   (.ret)) (.skip)))
  (.seq (.reg [o 9 (.mv (.c (.int .i64 1048576)))])
  (.seq (.reg [o 24 (.mv (.t 0)), o 25 (.mv (.t 9)), o 26 (.call 30 [(.t 24), (.t 25)]), o 9 (.mv (.t 26))])
  (.seq (.seq (.reg [o 27 (.mv (.t 9)), o 28 (.bin .lss (.t 27) (.c (.int .i64 0)))])
  (.cond (.t 28) (.seq (.reg [o 8 (.mv (.c (.bool true)))])
   (.ret)) (.skip)))
  (.seq (.reg [o 30 (.mv (.t 0)), o 31 (.call 32 [(.t 30)]), o 32 (.mv (.t 1)), o 33 (.mv (.t 2)), o 34 (.mv (.t 3)), o 35 (.call 51 [(.t 34)]), o 36 (.call 50 [(.t 31), (.t 32), (.t 33), (.t 35)]), o 29 (.mv (.t 36)), o 37 (.extract (.t 29) 0), o 38 (.extract (.t 29) 1), o 10 (.mv (.t 37)), o 11 (.mv (.t 38))])
  (.seq (.reg [o 39 (.mv (.t 0)), o 40 (.call 32 [(.t 39)]), o 12 (.mv (.t 40))])
  (.seq (.reg [o 41 (.mv (.t 3)), o 42 (.call 51 [(.t 41)]), o 13 (.mv (.t 42))])
  (.seq (.reg [o 44 (.mv (.t 12)), o 45 (.mv (.t 1)), o 46 (.mv (.t 2)), o 47 (.mv (.t 13)), o 48 (.call 52 [(.t 44), (.t 45), (.t 46), (.t 47)]), o 43 (.mv (.t 48)), o 49 (.extract (.t 43) 0), o 50 (.extract (.t 43) 1), o 14 (.mv (.t 49)), o 15 (.mv (.t 50))])
  (.seq (.seq (.reg [o 51 (.mv (.t 14)), o 52 (.mv (.t 10)), o 53 (.call 35 [(.t 51), (.t 52)]), o 54 (.un .not (.t 53)), o 55 (.mv (.t 54)), og 56 (.mv (.t 15)) 55 false, og 57 (.mv (.t 11)) 55 false, og 58 (.binb .neq (.t 56) (.t 57)) 55 false, o 59 (.pick (.t 55) (.c (.bool true)) (.t 58))])
  (.cond (.t 59) (.seq (.reg [o 8 (.mv (.c (.bool false)))])
   (.ret)) (.skip)))
  (.seq (.seq (.reg [o 60 (.mv (.t 12)), o 61 (.mv (.t 0)), o 62 (.call 32 [(.t 61)]), o 63 (.call 35 [(.t 60), (.t 62)]), o 64 (.un .not (.t 63))])
  (.cond (.t 64) (.seq (.reg [o 8 (.mv (.c (.bool false)))])
   (.ret)) (.skip)))
  (.seq (.seq (.reg [o 65 (.mv (.t 13)), o 66 (.mv (.t 3)), o 67 (.call 51 [(.t 66)]), o 68 (.call 34 [(.t 65), (.t 67)]), o 69 (.un .not (.t 68))])
  (.cond (.t 69) (.seq (.reg [o 8 (.mv (.c (.bool false)))])
   (.ret)) (.skip)))
  (.seq (.reg [o 16 (.mv (.c (.int .i64 1)))])
  (.seq (.reg [o 70 (.mv (.t 12)), o 71 (.mv (.t 16)), o 72 (.call 36 [(.t 70), (.t 71)]), o 16 (.mv (.t 72))])
  (.seq (.reg [o 73 (.mv (.t 13)), o 74 (.mv (.t 16)), o 75 (.call 37 [(.t 73), (.t 74)]), o 16 (.mv (.t 75))])
  (.seq (.seq (.reg [o 76 (.mv (.t 16)), o 77 (.bin .lss (.t 76) (.c (.int .i64 0))), o 78 (.mv (.t 77)), og 79 (.mv (.t 14)) 78 false, og 80 (.mv (.t 10)) 78 false, og 81 (.call 35 [(.t 79), (.t 80)]) 78 false, og 82 (.un .not (.t 81)) 78 false, o 83 (.pick (.t 78) (.c (.bool true)) (.t 82)), o 84 (.mv (.t 83)), og 85 (.mv (.t 15)) 84 false, og 86 (.mv (.t 11)) 84 false, og 87 (.binb .neq (.t 85) (.t 86)) 84 false, o 88 (.pick (.t 84) (.c (.bool true)) (.t 87))])
  (.cond (.t 88) (.seq (.reg [o 8 (.mv (.c (.bool false)))])
   (.ret)) (.skip)))
  (.seq (.reg [o 17 (.mv (.c (.int .i64 1)))])
  (.seq (.reg [o 89 (.mv (.t 14)), o 90 (.mv (.t 17)), o 91 (.call 36 [(.t 89), (.t 90)]), o 17 (.mv (.t 91))])
  (.seq (.reg [o 18 (.mv (.c (.int .i64 1)))])
  (.seq (.reg [o 92 (.mv (.t 14)), o 93 (.mv (.t 18)), o 94 (.call 53 [(.t 92), (.t 93)]), o 18 (.mv (.t 94))])
  (.seq (.seq (.reg [o 95 (.mv (.t 18)), o 96 (.bin .lss (.t 95) (.c (.int .i64 0)))])
  (.cond (.t 96) (.seq (.reg [o 8 (.mv (.c (.bool false)))])
   (.ret)) (.skip)))
  (.seq (.seq (.reg [o 97 (.mv (.t 18)), o 98 (.mv (.t 17)), o 99 (.bin .neq (.t 97) (.t 98))])
  (.cond (.t 99) (.seq (.reg [o 8 (.mv (.c (.bool false)))])
   (.ret)) (.skip)))
  (.seq (.reg [o 101 (.mv (.t 0)), o 102 (.call 32 [(.t 101)]), o 103 (.mv (.t 1)), o 104 (.mv (.t 2)), o 105 (.mv (.t 3)), o 106 (.call 51 [(.t 105)]), o 107 (.call 52 [(.t 102), (.t 103), (.t 104), (.t 106)]), o 100 (.mv (.t 107)), o 108 (.extract (.t 100) 0), o 109 (.extract (.t 100) 1), o 19 (.mv (.t 108)), o 20 (.mv (.t 109))])
  (.seq (.seq (.reg [o 110 (.mv (.t 19)), o 111 (.mv (.t 10)), o 112 (.call 35 [(.t 110), (.t 111)]), o 113 (.un .not (.t 112)), o 114 (.mv (.t 113)), og 115 (.mv (.t 20)) 114 false, og 116 (.mv (.t 11)) 114 false, og 117 (.binb .neq (.t 115) (.t 116)) 114 false, o 118 (.pick (.t 114) (.c (.bool true)) (.t 117))])
  (.cond (.t 118) (.seq (.reg [o 8 (.mv (.c (.bool false)))])
   (.ret)) (.skip)))
  (.seq (.reg [o 18 (.mv (.c (.int .i64 1)))])
  (.seq (.reg [o 119 (.mv (.t 14)), o 120 (.mv (.t 18)), o 121 (.call 53 [(.t 119), (.t 120)]), o 18 (.mv (.t 121))])
  (.seq (.seq (.reg [o 122 (.mv (.t 18)), o 123 (.bin .lss (.t 122) (.c (.int .i64 0)))])
  (.cond (.t 123) (.seq (.reg [o 8 (.mv (.c (.bool false)))])
   (.ret)) (.skip)))
  (.seq (.seq (.reg [o 124 (.mv (.t 18)), o 125 (.mv (.t 17)), o 126 (.bin .neq (.t 124) (.t 125))])
  (.cond (.t 126) (.seq (.reg [o 8 (.mv (.c (.bool false)))])
   (.ret)) (.skip)))
  (.seq (.reg [o 8 (.mv (.c (.bool true)))])
  (.ret))))))))))))))))))))))))))))),
  [.tmp 8]⟩
/- loop.example/g03011/laws.FnExactRecover -/
def F12 : Fun := ⟨74,
  .seq (.reg [o 4 (.mv (.c (.bool false)))])
  (.seq (.reg [o 5 (.mv (.c (.int .i64 1048576)))])
  (.seq (.reg [o 13 (.mv (.t 0)), o 14 (.mv (.t 5)), o 15 (.call 30 [(.t 13), (.t 14)]), o 5 (.mv (.t 15))])
  (.seq (.seq (.reg [o 16 (.mv (.t 5)), o 17 (.bin .lss (.t 16) (.c (.int .i64 0)))])
  (.cond (.t 17) (.seq (.reg [o 4 (.mv (.c (.bool true)))])
   (.ret)) (.skip)))
  (.seq (.reg [o 18 (.mv (.t 0)), o 19 (.call 32 [(.t 18)]), o 20 (.mv (.t 1)), o 21 (.call 54 [(.t 19), (.t 20)]), o 6 (.mv (.t 21))])
  (.seq (.reg [o 22 (.mv (.t 0)), o 23 (.call 32 [(.t 22)]), o 7 (.mv (.t 23))])
  (.seq (.reg [o 24 (.mv (.t 7)), o 25 (.mv (.t 1)), o 26 (.call 55 [(.t 24), (.t 25)]), o 8 (.mv (.t 26))])
  (.seq (.seq (.reg [o 27 (.mv (.t 8)), o 28 (.mv (.t 6)), o 29 (.call 35 [(.t 27), (.t 28)]), o 30 (.un .not (.t 29))])
  (.cond (.t 30) (.seq (.reg [o 4 (.mv (.c (.bool false)))])
   (.ret)) (.skip)))
  (.seq (.seq (.reg [o 31 (.mv (.t 7)), o 32 (.mv (.t 0)), o 33 (.call 32 [(.t 32)]), o 34 (.call 35 [(.t 31), (.t 33)]), o 35 (.un .not (.t 34))])
  (.cond (.t 35) (.seq (.reg [o 4 (.mv (.c (.bool false)))])
   (.ret)) (.skip)))
  (.seq (.reg [o 9 (.mv (.c (.int .i64 1)))])
  (.seq (.reg [o 36 (.mv (.t 7)), o 37 (.mv (.t 9)), o 38 (.call 36 [(.t 36), (.t 37)]), o 9 (.mv (.t 38))])
  (.seq (.seq (.reg [o 39 (.mv (.t 9)), o 40 (.bin .lss (.t 39) (.c (.int .i64 0))), o 41 (.mv (.t 40)), og 42 (.mv (.t 8)) 41 false, og 43 (.mv (.t 6)) 41 false, og 44 (.call 35 [(.t 42), (.t 43)]) 41 false, og 45 (.un .not (.t 44)) 41 false, o 46 (.pick (.t 41) (.c (.bool true)) (.t 45))])
  (.cond (.t 46) (.seq (.reg [o 4 (.mv (.c (.bool false)))])
   (.ret)) (.skip)))
  (.seq (.reg [o 10 (.mv (.c (.int .i64 1)))])
  (.seq (.reg [o 47 (.mv (.t 8)), o 48 (.mv (.t 10)), o 49 (.call 36 [(.t 47), (.t 48)]), o 10 (.mv (.t 49))])
  (.seq (.reg [o 11 (.mv (.c (.int .i64 1)))])
  (.seq (.reg [o 50 (.mv (.t 8)), o 51 (.mv (.t 11)), o 52 (.call 53 [(.t 50), (.t 51)]), o 11 (.mv (.t 52))])
  (.seq (.seq (.reg [o 53 (.mv (.t 11)), o 54 (.bin .lss (.t 53) (.c (.int .i64 0)))])
  (.cond (.t 54) (.seq (.reg [o 4 (.mv (.c (.bool false)))])
   (.ret)) (.skip)))
  (.seq (.seq (.reg [o 55 (.mv (.t 11)), o 56 (.mv (.t 10)), o 57 (.bin .neq (.t 55) (.t 56))])
  (.cond (.t 57) (.seq (.reg [o 4 (.mv (.c (.bool false)))])
   (.ret)) (.skip)))
  (.seq (.reg [o 58 (.mv (.t 0)), o 59 (.call 32 [(.t 58)]), o 60 (.mv (.t 1)), o 61 (.call 55 [(.t 59), (.t 60)]), o 12 (.mv (.t 61))])
  (.seq (.seq (.reg [o 62 (.mv (.t 12)), o 63 (.mv (.t 6)), o 64 (.call 35 [(.t 62), (.t 63)]), o 65 (.un .not (.t 64))])
  (.cond (.t 65) (.seq (.reg [o 4 (.mv (.c (.bool false)))])
   (.ret)) (.skip)))
  (.seq (.reg [o 11 (.mv (.c (.int .i64 1)))])
  (.seq (.reg [o 66 (.mv (.t 8)), o 67 (.mv (.t 11)), o 68 (.call 53 [(.t 66), (.t 67)]), o 11 (.mv (.t 68))])
  (.seq (.seq (.reg [o 69 (.mv (.t 11)), o 70 (.bin .lss (.t 69) (.c (.int .i64 0)))])
  (.cond (.t 70) (.seq (.reg [o 4 (.mv (.c (.bool false)))])
   (.ret)) (.skip)))
  (.seq (.seq (.reg [o 71 (.mv (.t 11)), o 72 (.mv (.t 10)), o 73 (.bin .neq (.t 71) (.t 72))])
  (.cond (.t 73) (.seq (.reg [o 4 (.mv (.c (.bool false)))])
   (.ret)) (.skip)))
  (.seq (.reg [o 4 (.mv (.c (.bool true)))])
  (.ret))))))))))))))))))))))))),
  [.tmp 4]⟩
/- loop.example/g03011/laws.FnSessions -/
def F13 : Fun := ⟨160,
  .seq (.reg [o 2 (.mv (.c (.bool false)))])
  (.seq (.seq (.reg [o 24 (.mv (.t 0)), o 25 (.call 41 [(.t 24)])])
  (.cond (.t 25) (.seq (.reg [o 2 (.mv (.c (.bool true)))])
   (.ret)) (.skip)))
  (.seq (.reg [o 27 (.mv (.t 0)), o 28 (.call 56 [(.t 27)]), o 26 (.mv (.t 28)), o 29 (.extract (.t 26) 0), o 30 (.extract (.t 26) 1), o 31 (.extract (.t 26) 2), o 32 (.extract (.t 26) 3), o 3 (.mv (.t 29)), o 4 (.mv (.t 30)), o 5 (.mv (.t 31)), o 6 (.mv (.t 32))])
  (.seq (.reg [o 34 (.mv (.t 3)), o 35 (.mv (.t 4)), o 36 (.mv (.t 5)), o 37 (.mv (.t 6)), o 38 (.call 57 [(.t 34), (.t 35), (.t 36), (.t 37)]), o 33 (.mv (.t 38)), o 39 (.extract (.t 33) 0), o 40 (.extract (.t 33) 1), o 41 (.extract (.t 33) 2), o 7 (.mv (.t 39)), o 8 (.mv (.t 40)), o 9 (.mv (.t 41))])
  (.seq (.seq (.reg [o 42 (.mv (.t 9)), o 43 (.bin .neq (.t 42) (.c (.int .i64 0)))])
  (.cond (.t 43) (.seq (.reg [o 44 (.mv (.t 8)), o 45 (.bin .eql (.t 44) (.c (.str []))), o 46 (.mv (.t 45)), og 47 (.mv (.t 7)) 46 true, og 48 (.lenL (.t 47)) 46 true, og 49 (.mv (.t 3)) 46 true, og 50 (.lenL (.t 49)) 46 true, og 51 (.bin .eql (.t 48) (.t 50)) 46 true, o 52 (.pick (.t 46) (.t 51) (.c (.bool false))), o 2 (.mv (.t 52))])
   (.ret)) (.skip)))
  (.seq (.reg [o 54 (.mv (.t 7)), o 55 (.mv (.t 4)), o 56 (.mv (.t 5)), o 57 (.bin .add (.t 56) (.c (.int .i64 1))), o 58 (.mv (.t 6)), o 59 (.call 57 [(.t 54), (.t 55), (.t 57), (.t 58)]), o 53 (.mv (.t 59)), o 60 (.extract (.t 53) 0), o 61 (.extract (.t 53) 1), o 62 (.extract (.t 53) 2), o 10 (.mv (.t 60)), o 11 (.mv (.t 61)), o 12 (.mv (.t 62))])
  (.seq (.reg [o 64 (.mv (.t 7)), o 65 (.mv (.t 4)), o 66 (.mv (.t 5)), o 67 (.mv (.t 6)), o 68 (.call 40 [(.t 64), (.t 65), (.t 66), (.c (.str [110, 101, 119])), (.t 67)]), o 63 (.mv (.t 68)), o 69 (.extract (.t 63) 0), o 70 (.extract (.t 63) 1), o 13 (.mv (.t 69)), o 14 (.mv (.t 70))])
  (.seq (.reg [o 72 (.mv (.t 7)), o 73 (.mv (.t 4)), o 74 (.mv (.t 5)), o 75 (.bin .add (.t 74) (.c (.int .i64 1))), o 76 (.mv (.t 6)), o 77 (.call 40 [(.t 72), (.t 73), (.t 75), (.c (.str [98, 97, 100])), (.t 76)]), o 71 (.mv (.t 77)), o 78 (.extract (.t 71) 0), o 79 (.extract (.t 71) 1), o 15 (.mv (.t 78)), o 16 (.mv (.t 79))])
  (.seq (.reg [o 81 (.mv (.t 13)), o 82 (.mv (.t 4)), o 83 (.mv (.t 5)), o 84 (.bin .add (.t 83) (.c (.int .i64 1))), o 85 (.mv (.t 6)), o 86 (.call 57 [(.t 81), (.t 82), (.t 84), (.t 85)]), o 80 (.mv (.t 86)), o 87 (.extract (.t 80) 0), o 88 (.extract (.t 80) 1), o 89 (.extract (.t 80) 2), o 17 (.mv (.t 87)), o 18 (.mv (.t 88)), o 19 (.mv (.t 89))])
  (.seq (.reg [o 91 (.mv (.t 7)), o 92 (.mv (.t 5)), o 93 (.call 25 [(.t 91), (.t 92)]), o 94 (.mv (.t 4)), o 95 (.mv (.t 5)), o 96 (.bin .add (.t 95) (.c (.int .i64 1))), o 97 (.mv (.t 6)), o 98 (.call 57 [(.t 93), (.t 94), (.t 96), (.t 97)]), o 90 (.mv (.t 98)), o 99 (.extract (.t 90) 0), o 100 (.extract (.t 90) 1), o 101 (.extract (.t 90) 2), o 20 (.mv (.t 99)), o 21 (.mv (.t 100)), o 22 (.mv (.t 101))])
  (.seq (.reg [o 102 (.mv (.t 7)), o 103 (.mv (.t 4)), o 104 (.call 58 [(.t 102), (.t 103)]), o 23 (.mv (.t 104))])
  (.seq (.reg [o 105 (.mv (.t 7)), o 106 (.call 20 [(.t 105)]), o 107 (.mv (.t 106)), og 108 (.mv (.t 23)) 107 true, og 109 (.bin .geq (.t 108) (.c (.int .i64 0))) 107 true, o 110 (.pick (.t 107) (.t 109) (.c (.bool false))), o 111 (.mv (.t 110)), og 112 (.mv (.t 7)) 111 true, og 113 (.mv (.t 23)) 111 true, og 114 (.iaddr 4 (.t 112) (.t 113)) 111 true, og 115 (.faddr 2 (.t 114)) 111 true, og 116 (.load none (.t 115)) 111 true, og 117 (.mv (.t 5)) 111 true, og 118 (.bin .eql (.t 116) (.t 117)) 111 true, o 119 (.pick (.t 111) (.t 118) (.c (.bool false))), o 120 (.mv (.t 119)), og 121 (.mv (.t 12)) 120 true, og 122 (.bin .eql (.t 121) (.c (.int .i64 2))) 120 true, o 123 (.pick (.t 120) (.t 122) (.c (.bool false))), o 124 (.mv (.t 123)), og 125 (.mv (.t 14)) 124 true, o 126 (.pick (.t 124) (.t 125) (.c (.bool false))), o 127 (.mv (.t 126)), og 128 (.mv (.t 16)) 127 true, og 129 (.un .not (.t 128)) 127 true, o 130 (.pick (.t 127) (.t 129) (.c (.bool false))), o 131 (.mv (.t 130)), og 132 (.mv (.t 19)) 131 true, og 133 (.bin .eql (.t 132) (.c (.int .i64 0))) 131 true, o 134 (.pick (.t 131) (.t 133) (.c (.bool false))), o 135 (.mv (.t 134)), og 136 (.mv (.t 18)) 135 true, og 137 (.bin .eql (.t 136) (.c (.str [110, 101, 119]))) 135 true, o 138 (.pick (.t 135) (.t 137) (.c (.bool false))), o 139 (.mv (.t 138)), og 140 (.mv (.t 22)) 139 true, og 141 (.bin .eql (.t 140) (.c (.int .i64 0))) 139 true, o 142 (.pick (.t 139) (.t 141) (.c (.bool false))), o 143 (.mv (.t 142)), og 144 (.mv (.t 21)) 143 true, og 145 (.mv (.t 8)) 143 true, og 146 (.bin .eql (.t 144) (.t 145)) 143 true, o 147 (.pick (.t 143) (.t 146) (.c (.bool false))), o 148 (.mv (.t 147)), og 149 (.mv (.t 13)) 148 true, og 150 (.call 20 [(.t 149)]) 148 true, o 151 (.pick (.t 148) (.t 150) (.c (.bool false))), o 152 (.mv (.t 151)), og 153 (.mv (.t 17)) 152 true, og 154 (.call 20 [(.t 153)]) 152 true, o 155 (.pick (.t 152) (.t 154) (.c (.bool false))), o 156 (.mv (.t 155)), og 157 (.mv (.t 20)) 156 true, og 158 (.call 20 [(.t 157)]) 156 true, o 159 (.pick (.t 156) (.t 158) (.c (.bool false))), o 2 (.mv (.t 159))])
  (.ret)))))))))))),
  [.tmp 2]⟩
/- loop.example/g03011/laws.FnExactIsResponse -/
def F14 : Fun := ⟨27,
  .seq (.reg [o 1 (.box 3 (.t 0)), o 2 (.mv (.c (.bool false)))])
  (.seq (.reg [o 3 (.mv (.c (.int .i64 1048576)))])
  (.seq (.reg [o 7 (.load (some 3) (.t 1)), o 8 (.mv (.t 3)), o 9 (.call 59 [(.t 7), (.t 8)]), o 3 (.mv (.t 9))])
  (.seq (.seq (.reg [o 10 (.mv (.t 3)), o 11 (.bin .lss (.t 10) (.c (.int .i64 0)))])
  (.cond (.t 11) (.seq (.reg [o 2 (.mv (.c (.bool true)))])
   (.ret)) (.skip)))
  (.seq (.reg [o 12 (.load (some 3) (.t 1)), o 13 (.call 61 [(.t 12)]), o 14 (.call 60 [(.t 13)]), o 4 (.mv (.t 14))])
  (.seq (.reg [o 15 (.load (some 3) (.t 1)), o 16 (.call 61 [(.t 15)]), o 5 (.new 3 [(.int .i64 0), .nsl, (.str [])]), st (.store 3 (.t 5) (.t 16))])
  (.seq (.reg [o 17 (.load (some 3) (.t 5)), o 18 (.call 62 [(.t 17)]), o 6 (.mv (.t 18))])
  (.seq (.seq (.reg [o 19 (.mv (.t 6)), o 20 (.mv (.t 4)), o 21 (.binb .neq (.t 19) (.t 20))])
  (.cond (.t 21) (.seq (.reg [o 2 (.mv (.c (.bool false)))])
   (.ret)) (.skip)))
  (.seq (.seq (.draw [o 22 (.load (some 3) (.t 5)), o 23 (.load (some 3) (.t 1)), o 24 (.callF 61 [(.t 23)]), o 25 (.callF 63 [(.t 22), (.t 24)]), o 26 (.un .not (.t 25))])
  (.cond (.t 26) (.seq (.reg [o 2 (.mv (.c (.bool false)))])
   (.ret)) (.skip)))
  (.seq (.reg [o 2 (.mv (.c (.bool true)))])
  (.ret)))))))))),
  [.tmp 2]⟩
/- loop.example/g03011/laws.FnExactOpenSession -/
def F15 : Fun := ⟨135,
  .seq (.reg [o 8 (.mv (.c (.bool false)))])
  (.seq (.seq (.reg [o 23 (.mv (.t 1)), o 24 (.lenS (.t 23)), o 25 (.bin .gtr (.t 24) (.c (.int .i64 1048576)))])
  (.cond (.t 25) (.seq (.reg [o 8 (.mv (.c (.bool true)))])
   (.ret)) (.skip)))
  (.seq (.reg [o 9 (.mv (.c (.int .i64 1048576)))])
  (.seq (.reg [o 26 (.mv (.t 0)), o 27 (.mv (.t 9)), o 28 (.call 19 [(.t 26), (.t 27)]), o 9 (.mv (.t 28))])
  (.seq (.seq (.reg [o 29 (.mv (.t 9)), o 30 (.bin .lss (.t 29) (.c (.int .i64 0)))])
  (.cond (.t 30) (.seq (.reg [o 8 (.mv (.c (.bool true)))])
   (.ret)) (.skip)))
  (.seq (.reg [o 32 (.mv (.t 0)), o 33 (.call 21 [(.t 32)]), o 34 (.mv (.t 1)), o 35 (.mv (.t 2)), o 36 (.mv (.t 3)), o 37 (.call 64 [(.t 33), (.t 34), (.t 35), (.t 36)]), o 31 (.mv (.t 37)), o 38 (.extract (.t 31) 0), o 39 (.extract (.t 31) 1), o 40 (.extract (.t 31) 2), o 10 (.mv (.t 38)), o 11 (.mv (.t 39)), o 12 (.mv (.t 40))])
  (.seq (.reg [o 41 (.mv (.t 0)), o 42 (.call 21 [(.t 41)]), o 13 (.mv (.t 42))])
  (.seq (.reg [o 44 (.mv (.t 13)), o 45 (.mv (.t 1)), o 46 (.mv (.t 2)), o 47 (.mv (.t 3)), o 48 (.call 57 [(.t 44), (.t 45), (.t 46), (.t 47)]), o 43 (.mv (.t 48)), o 49 (.extract (.t 43) 0), o 50 (.extract (.t 43) 1), o 51 (.extract (.t 43) 2), o 14 (.mv (.t 49)), o 15 (.mv (.t 50)), o 16 (.mv (.t 51))])
  (.seq (.seq (.reg [o 52 (.mv (.t 14)), o 53 (.mv (.t 10)), o 54 (.call 23 [(.t 52), (.t 53)]), o 55 (.un .not (.t 54)), o 56 (.mv (.t 55)), og 57 (.mv (.t 15)) 56 false, og 58 (.mv (.t 11)) 56 false, og 59 (.bin .neq (.t 57) (.t 58)) 56 false, o 60 (.pick (.t 56) (.c (.bool true)) (.t 59)), o 61 (.mv (.t 60)), og 62 (.mv (.t 16)) 61 false, og 63 (.mv (.t 12)) 61 false, og 64 (.bin .neq (.t 62) (.t 63)) 61 false, o 65 (.pick (.t 61) (.c (.bool true)) (.t 64))])
  (.cond (.t 65) (.seq (.reg [o 8 (.mv (.c (.bool false)))])
   (.ret)) (.skip)))
  (.seq (.seq (.reg [o 66 (.mv (.t 13)), o 67 (.mv (.t 0)), o 68 (.call 21 [(.t 67)]), o 69 (.call 23 [(.t 66), (.t 68)]), o 70 (.un .not (.t 69))])
  (.cond (.t 70) (.seq (.reg [o 8 (.mv (.c (.bool false)))])
   (.ret)) (.skip)))
  (.seq (.reg [o 17 (.mv (.c (.int .i64 1)))])
  (.seq (.reg [o 71 (.mv (.t 13)), o 72 (.mv (.t 17)), o 73 (.call 26 [(.t 71), (.t 72)]), o 17 (.mv (.t 73))])
  (.seq (.seq (.reg [o 74 (.mv (.t 17)), o 75 (.bin .lss (.t 74) (.c (.int .i64 0))), o 76 (.mv (.t 75)), og 77 (.mv (.t 14)) 76 false, og 78 (.mv (.t 10)) 76 false, og 79 (.call 23 [(.t 77), (.t 78)]) 76 false, og 80 (.un .not (.t 79)) 76 false, o 81 (.pick (.t 76) (.c (.bool true)) (.t 80)), o 82 (.mv (.t 81)), og 83 (.mv (.t 15)) 82 false, og 84 (.mv (.t 11)) 82 false, og 85 (.bin .neq (.t 83) (.t 84)) 82 false, o 86 (.pick (.t 82) (.c (.bool true)) (.t 85)), o 87 (.mv (.t 86)), og 88 (.mv (.t 16)) 87 false, og 89 (.mv (.t 12)) 87 false, og 90 (.bin .neq (.t 88) (.t 89)) 87 false, o 91 (.pick (.t 87) (.c (.bool true)) (.t 90))])
  (.cond (.t 91) (.seq (.reg [o 8 (.mv (.c (.bool false)))])
   (.ret)) (.skip)))
  (.seq (.reg [o 18 (.mv (.c (.int .i64 1)))])
  (.seq (.reg [o 92 (.mv (.t 14)), o 93 (.mv (.t 18)), o 94 (.call 26 [(.t 92), (.t 93)]), o 18 (.mv (.t 94))])
  (.seq (.reg [o 19 (.mv (.c (.int .i64 1)))])
  (.seq (.reg [o 95 (.mv (.t 14)), o 96 (.mv (.t 19)), o 97 (.call 27 [(.t 95), (.t 96)]), o 19 (.mv (.t 97))])
  (.seq (.seq (.reg [o 98 (.mv (.t 19)), o 99 (.bin .lss (.t 98) (.c (.int .i64 0)))])
  (.cond (.t 99) (.seq (.reg [o 8 (.mv (.c (.bool false)))])
   (.ret)) (.skip)))
  (.seq (.seq (.reg [o 100 (.mv (.t 19)), o 101 (.mv (.t 18)), o 102 (.bin .neq (.t 100) (.t 101))])
  (.cond (.t 102) (.seq (.reg [o 8 (.mv (.c (.bool false)))])
   (.ret)) (.skip)))
  (.seq (.reg [o 104 (.mv (.t 0)), o 105 (.call 21 [(.t 104)]), o 106 (.mv (.t 1)), o 107 (.mv (.t 2)), o 108 (.mv (.t 3)), o 109 (.call 57 [(.t 105), (.t 106), (.t 107), (.t 108)]), o 103 (.mv (.t 109)), o 110 (.extract (.t 103) 0), o 111 (.extract (.t 103) 1), o 112 (.extract (.t 103) 2), o 20 (.mv (.t 110)), o 21 (.mv (.t 111)), o 22 (.mv (.t 112))])
  (.seq (.seq (.reg [o 113 (.mv (.t 20)), o 114 (.mv (.t 10)), o 115 (.call 23 [(.t 113), (.t 114)]), o 116 (.un .not (.t 115)), o 117 (.mv (.t 116)), og 118 (.mv (.t 21)) 117 false, og 119 (.mv (.t 11)) 117 false, og 120 (.bin .neq (.t 118) (.t 119)) 117 false, o 121 (.pick (.t 117) (.c (.bool true)) (.t 120)), o 122 (.mv (.t 121)), og 123 (.mv (.t 22)) 122 false, og 124 (.mv (.t 12)) 122 false, og 125 (.bin .neq (.t 123) (.t 124)) 122 false, o 126 (.pick (.t 122) (.c (.bool true)) (.t 125))])
  (.cond (.t 126) (.seq (.reg [o 8 (.mv (.c (.bool false)))])
   (.ret)) (.skip)))
  (.seq (.reg [o 19 (.mv (.c (.int .i64 1)))])
  (.seq (.reg [o 127 (.mv (.t 14)), o 128 (.mv (.t 19)), o 129 (.call 27 [(.t 127), (.t 128)]), o 19 (.mv (.t 129))])
  (.seq (.seq (.reg [o 130 (.mv (.t 19)), o 131 (.bin .lss (.t 130) (.c (.int .i64 0)))])
  (.cond (.t 131) (.seq (.reg [o 8 (.mv (.c (.bool false)))])
   (.ret)) (.skip)))
  (.seq (.seq (.reg [o 132 (.mv (.t 19)), o 133 (.mv (.t 18)), o 134 (.bin .neq (.t 132) (.t 133))])
  (.cond (.t 134) (.seq (.reg [o 8 (.mv (.c (.bool false)))])
   (.ret)) (.skip)))
  (.seq (.reg [o 8 (.mv (.c (.bool true)))])
  (.ret)))))))))))))))))))))))))),
  [.tmp 8]⟩
/- loop.example/g03011/laws.FnNeverTorn -/
def F16 : Fun := ⟨145,
  .seq (.reg [o 2 (.mv (.c (.bool false)))])
  (.seq (.seq (.reg [o 13 (.mv (.t 0)), o 14 (.call 41 [(.t 13)])])
  (.cond (.t 14) (.seq (.reg [o 2 (.mv (.c (.bool true)))])
   (.ret)) (.skip)))
  (.seq (.reg [o 16 (.mv (.t 0)), o 17 (.call 65 [(.t 16)]), o 15 (.mv (.t 17)), o 18 (.extract (.t 15) 0), o 19 (.extract (.t 15) 1), o 20 (.extract (.t 15) 2), o 3 (.mv (.t 18)), o 4 (.mv (.t 19)), o 5 (.mv (.t 20))])
  (.seq (.reg [o 22 (.mv (.t 3)), o 23 (.mv (.t 4)), o 24 (.mv (.t 5)), o 25 (.call 66 [(.t 22), (.t 23), (.t 24)]), o 21 (.mv (.t 25)), o 26 (.extract (.t 21) 0), o 27 (.extract (.t 21) 1), o 6 (.mv (.t 26)), o 7 (.mv (.t 27))])
  (.seq (.seq (.reg [o 28 (.mv (.t 3)), o 29 (.call 67 [(.t 28)]), o 30 (.un .not (.t 29)), o 31 (.mv (.t 30)), og 32 (.mv (.t 4)) 31 false, og 33 (.call 68 [(.t 32)]) 31 false, og 34 (.un .not (.t 33)) 31 false, o 35 (.pick (.t 31) (.c (.bool true)) (.t 34))])
  (.cond (.t 35) (.seq (.reg [o 36 (.mv (.t 6)), o 37 (.lenL (.t 36)), o 38 (.mv (.t 3)), o 39 (.lenL (.t 38)), o 40 (.bin .eql (.t 37) (.t 39)), o 41 (.mv (.t 40)), og 42 (.mv (.t 7)) 41 true, og 43 (.lenL (.t 42)) 41 true, og 44 (.mv (.t 4)) 41 true, og 45 (.lenL (.t 44)) 41 true, og 46 (.bin .eql (.t 43) (.t 45)) 41 true, o 47 (.pick (.t 41) (.t 46) (.c (.bool false))), o 2 (.mv (.t 47))])
   (.ret)) (.skip)))
  (.seq (.seq (.reg [o 48 (.mv (.t 6)), o 49 (.call 67 [(.t 48)]), o 50 (.un .not (.t 49)), o 51 (.mv (.t 50)), og 52 (.mv (.t 7)) 51 false, og 53 (.lenL (.t 52)) 51 false, og 54 (.mv (.t 4)) 51 false, og 55 (.lenL (.t 54)) 51 false, og 56 (.bin .neq (.t 53) (.t 55)) 51 false, o 57 (.pick (.t 51) (.c (.bool true)) (.t 56))])
  (.cond (.t 57) (.seq (.reg [o 2 (.mv (.c (.bool false)))])
   (.ret)) (.skip)))
  (.seq (.seq (.reg [o 8 (.mv (.c (.int .i64 0)))])
  (.block 0 (.loop (.seq (.seq (.reg [o 58 (.mv (.t 8)), o 59 (.mv (.t 7)), o 60 (.lenL (.t 59)), o 61 (.bin .lss (.t 58) (.t 60))])
    (.cond (.t 61) (.skip) (.exit 0)))
    (.seq (.block 1 (.seq (.reg [o 64 (.mv (.t 7)), o 65 (.mv (.t 8)), o 66 (.iaddr 7 (.t 64) (.t 65)), o 67 (.load (some 7) (.t 66)), o 9 (.new 7 [(.bool false), (.int .i64 0), (.int .i64 0), .nsl, (.int .i64 0), (.int .i64 0), (.int .i64 0)]), st (.store 7 (.t 9) (.t 67))])
     (.seq (.seq (.reg [o 68 (.faddr 0 (.t 9)), o 69 (.load none (.t 68)), o 70 (.mv (.t 69)), og 71 (.faddr 4 (.t 9)) 70 false, og 72 (.load none (.t 71)) 70 false, og 73 (.bin .neq (.t 72) (.c (.int .i64 2))) 70 false, o 74 (.pick (.t 70) (.c (.bool true)) (.t 73))])
     (.cond (.t 74) (.exit 1) (.skip)))
     (.seq (.reg [o 75 (.faddr 1 (.t 9)), o 76 (.load none (.t 75)), o 77 (.mv (.t 3)), o 78 (.lenL (.t 77)), o 79 (.bin .lss (.t 76) (.t 78)), o 80 (.mv (.t 79)), og 81 (.mv (.t 3)) 80 true, og 82 (.faddr 1 (.t 9)) 80 true, og 83 (.load none (.t 82)) 80 true, og 84 (.iaddr 4 (.t 81) (.t 83)) 80 true, og 85 (.faddr 2 (.t 84)) 80 true, og 86 (.load none (.t 85)) 80 true, og 87 (.faddr 2 (.t 9)) 80 true, og 88 (.load none (.t 87)) 80 true, og 89 (.bin .eql (.t 86) (.t 88)) 80 true, o 90 (.pick (.t 80) (.t 89) (.c (.bool false))), o 91 (.mv (.t 90)), og 92 (.mv (.t 3)) 91 true, og 93 (.faddr 1 (.t 9)) 91 true, og 94 (.load none (.t 93)) 91 true, og 95 (.iaddr 4 (.t 92) (.t 94)) 91 true, og 96 (.faddr 3 (.t 95)) 91 true, og 97 (.load none (.t 96)) 91 true, og 98 (.faddr 3 (.t 9)) 91 true, og 99 (.load none (.t 98)) 91 true, og 100 (.callF 69 [(.t 97), (.t 99)]) 91 true, o 101 (.pick (.t 91) (.t 100) (.c (.bool false))), o 10 (.mv (.t 101))])
     (.seq (.seq (.reg [o 11 (.mv (.c (.int .i64 0)))])
     (.block 2 (.loop (.seq (.seq (.reg [o 102 (.mv (.t 11)), o 103 (.mv (.t 7)), o 104 (.lenL (.t 103)), o 105 (.bin .lss (.t 102) (.t 104))])
       (.cond (.t 105) (.skip) (.exit 2)))
       (.seq (.block 3 (.seq (.reg [o 108 (.mv (.t 7)), o 109 (.mv (.t 11)), o 110 (.iaddr 7 (.t 108) (.t 109)), o 111 (.load (some 7) (.t 110)), o 12 (.new 7 [(.bool false), (.int .i64 0), (.int .i64 0), .nsl, (.int .i64 0), (.int .i64 0), (.int .i64 0)]), st (.store 7 (.t 12) (.t 111))])
        (.reg [o 112 (.mv (.t 10)), o 113 (.mv (.t 112)), og 114 (.faddr 0 (.t 12)) 113 false, og 115 (.load none (.t 114)) 113 false, og 116 (.mv (.t 115)) 113 false, og 117 (.faddr 4 (.t 12)) 116 true, og 118 (.load none (.t 117)) 116 true, og 119 (.bin .eql (.t 118) (.c (.int .i64 2))) 116 true, og 120 (.pick (.t 116) (.t 119) (.c (.bool false))) 113 false, og 121 (.mv (.t 120)) 113 false, og 122 (.faddr 1 (.t 12)) 121 true, og 123 (.load none (.t 122)) 121 true, og 124 (.faddr 1 (.t 9)) 121 true, og 125 (.load none (.t 124)) 121 true, og 126 (.bin .eql (.t 123) (.t 125)) 121 true, og 127 (.pick (.t 121) (.t 126) (.c (.bool false))) 113 false, og 128 (.mv (.t 127)) 113 false, og 129 (.faddr 2 (.t 12)) 128 true, og 130 (.load none (.t 129)) 128 true, og 131 (.faddr 2 (.t 9)) 128 true, og 132 (.load none (.t 131)) 128 true, og 133 (.bin .eql (.t 130) (.t 132)) 128 true, og 134 (.pick (.t 128) (.t 133) (.c (.bool false))) 113 false, og 135 (.mv (.t 134)) 113 false, og 136 (.faddr 3 (.t 12)) 135 true, og 137 (.load none (.t 136)) 135 true, og 138 (.faddr 3 (.t 9)) 135 true, og 139 (.load none (.t 138)) 135 true, og 140 (.call 69 [(.t 137), (.t 139)]) 135 true, og 141 (.pick (.t 135) (.t 140) (.c (.bool false))) 113 false, o 142 (.pick (.t 113) (.c (.bool true)) (.t 141)), o 10 (.mv (.t 142))])))
       (.reg [o 106 (.mv (.t 11)), o 107 (.bin .add (.t 106) (.c (.int .i64 1))), o 11 (.mv (.t 107))]))))))
     (.seq (.reg [o 143 (.mv (.t 10)), o 144 (.un .not (.t 143))])
     (.cond (.t 144) (.seq (.reg [o 2 (.mv (.c (.bool false)))])
      (.ret)) (.skip))))))))
    (.reg [o 62 (.mv (.t 8)), o 63 (.bin .add (.t 62) (.c (.int .i64 1))), o 8 (.mv (.t 63))]))))))
  (.seq (.reg [o 2 (.mv (.c (.bool true)))])
  (.ret)))))))),
  [.tmp 2]⟩
/- loop.example/g03011/laws.FnRecovered -/
def F17 : Fun := ⟨179,
  .seq (.reg [o 2 (.mv (.c (.bool false)))])
  (.seq (.seq (.reg [o 17 (.mv (.t 0)), o 18 (.call 41 [(.t 17)])])
  (.cond (.t 18) (.seq (.reg [o 2 (.mv (.c (.bool true)))])
   (.ret)) (.skip)))
  (.seq (.reg [o 20 (.mv (.t 0)), o 21 (.call 70 [(.t 20)]), o 19 (.mv (.t 21)), o 22 (.extract (.t 19) 0), o 23 (.extract (.t 19) 1), o 3 (.mv (.t 22)), o 4 (.mv (.t 23))])
  (.seq (.reg [o 24 (.mv (.t 3)), o 25 (.mv (.t 4)), o 26 (.call 55 [(.t 24), (.t 25)]), o 5 (.mv (.t 26))])
  (.seq (.seq (.reg [o 27 (.mv (.t 3)), o 28 (.call 67 [(.t 27)]), o 29 (.un .not (.t 28)), o 30 (.mv (.t 29)), og 31 (.mv (.t 4)) 30 false, og 32 (.bin .lss (.t 31) (.c (.int .i64 1))) 30 false, o 33 (.pick (.t 30) (.c (.bool true)) (.t 32))])
  (.cond (.t 33) (.seq (.reg [o 34 (.mv (.t 5)), o 35 (.lenL (.t 34)), o 36 (.mv (.t 3)), o 37 (.lenL (.t 36)), o 38 (.bin .eql (.t 35) (.t 37)), o 2 (.mv (.t 38))])
   (.ret)) (.skip)))
  (.seq (.seq (.reg [o 6 (.mv (.c (.int .i64 0)))])
  (.block 0 (.loop (.seq (.seq (.reg [o 39 (.mv (.t 6)), o 40 (.mv (.t 3)), o 41 (.lenL (.t 40)), o 42 (.bin .lss (.t 39) (.t 41))])
    (.cond (.t 42) (.skip) (.exit 0)))
    (.seq (.block 1 (.seq (.reg [o 45 (.mv (.t 3)), o 46 (.mv (.t 6)), o 47 (.iaddr 4 (.t 45) (.t 46)), o 48 (.faddr 1 (.t 47)), o 49 (.load none (.t 48)), o 50 (.mv (.t 4)), o 51 (.bin .eql (.t 49) (.t 50)), o 52 (.mv (.t 51)), og 53 (.mv (.t 5)) 52 true, og 54 (.mv (.t 6)) 52 true, og 55 (.iaddr 4 (.t 53) (.t 54)) 52 true, og 56 (.faddr 1 (.t 55)) 52 true, og 57 (.load none (.t 56)) 52 true, og 58 (.bin .neq (.t 57) (.c (.int .i64 0))) 52 true, og 59 (.mv (.t 58)) 52 true, og 60 (.mv (.t 5)) 59 false, og 61 (.mv (.t 6)) 59 false, og 62 (.iaddr 4 (.t 60) (.t 61)) 59 false, og 63 (.faddr 2 (.t 62)) 59 false, og 64 (.load none (.t 63)) 59 false, og 65 (.bin .neq (.t 64) (.c (.int .i64 0))) 59 false, og 66 (.pick (.t 59) (.c (.bool true)) (.t 65)) 52 true, og 67 (.mv (.t 66)) 52 true, og 68 (.mv (.t 5)) 67 false, og 69 (.mv (.t 6)) 67 false, og 70 (.iaddr 4 (.t 68) (.t 69)) 67 false, og 71 (.faddr 0 (.t 70)) 67 false, og 72 (.load none (.t 71)) 67 false, og 73 (.mv (.t 3)) 67 false, og 74 (.mv (.t 6)) 67 false, og 75 (.iaddr 4 (.t 73) (.t 74)) 67 false, og 76 (.faddr 0 (.t 75)) 67 false, og 77 (.load none (.t 76)) 67 false, og 78 (.bin .add (.t 77) (.c (.int .i64 1))) 67 false, og 79 (.bin .neq (.t 72) (.t 78)) 67 false, og 80 (.pick (.t 67) (.c (.bool true)) (.t 79)) 52 true, o 81 (.pick (.t 52) (.t 80) (.c (.bool false))), o 82 (.mv (.t 81)), og 83 (.mv (.t 3)) 82 false, og 84 (.mv (.t 6)) 82 false, og 85 (.iaddr 4 (.t 83) (.t 84)) 82 false, og 86 (.faddr 1 (.t 85)) 82 false, og 87 (.load none (.t 86)) 82 false, og 88 (.mv (.t 4)) 82 false, og 89 (.bin .neq (.t 87) (.t 88)) 82 false, og 90 (.mv (.t 89)) 82 false, og 91 (.mv (.t 5)) 90 true, og 92 (.mv (.t 6)) 90 true, og 93 (.iaddr 4 (.t 91) (.t 92)) 90 true, og 94 (.faddr 1 (.t 93)) 90 true, og 95 (.load none (.t 94)) 90 true, og 96 (.mv (.t 3)) 90 true, og 97 (.mv (.t 6)) 90 true, og 98 (.iaddr 4 (.t 96) (.t 97)) 90 true, og 99 (.faddr 1 (.t 98)) 90 true, og 100 (.load none (.t 99)) 90 true, og 101 (.bin .neq (.t 95) (.t 100)) 90 true, og 102 (.mv (.t 101)) 90 true, og 103 (.mv (.t 5)) 102 false, og 104 (.mv (.t 6)) 102 false, og 105 (.iaddr 4 (.t 103) (.t 104)) 102 false, og 106 (.faddr 0 (.t 105)) 102 false, og 107 (.load none (.t 106)) 102 false, og 108 (.mv (.t 3)) 102 false, og 109 (.mv (.t 6)) 102 false, og 110 (.iaddr 4 (.t 108) (.t 109)) 102 false, og 111 (.faddr 0 (.t 110)) 102 false, og 112 (.load none (.t 111)) 102 false, og 113 (.bin .neq (.t 107) (.t 112)) 102 false, og 114 (.pick (.t 102) (.c (.bool true)) (.t 113)) 90 true, og 115 (.mv (.t 114)) 90 true, og 116 (.mv (.t 5)) 115 false, og 117 (.mv (.t 6)) 115 false, og 118 (.iaddr 4 (.t 116) (.t 117)) 115 false, og 119 (.faddr 3 (.t 118)) 115 false, og 120 (.load none (.t 119)) 115 false, og 121 (.mv (.t 3)) 115 false, og 122 (.mv (.t 6)) 115 false, og 123 (.iaddr 4 (.t 121) (.t 122)) 115 false, og 124 (.faddr 3 (.t 123)) 115 false, og 125 (.load none (.t 124)) 115 false, og 126 (.callF 69 [(.t 120), (.t 125)]) 115 false, og 127 (.un .not (.t 126)) 115 false, og 128 (.pick (.t 115) (.c (.bool true)) (.t 127)) 90 true, og 129 (.pick (.t 90) (.t 128) (.c (.bool false))) 82 false, o 130 (.pick (.t 82) (.c (.bool true)) (.t 129))])
     (.cond (.t 130) (.seq (.reg [o 2 (.mv (.c (.bool false)))])
      (.ret)) (.skip))))
    (.reg [o 43 (.mv (.t 6)), o 44 (.bin .add (.t 43) (.c (.int .i64 1))), o 6 (.mv (.t 44))]))))))
  (.seq (.reg [o 132 (.mv (.t 0)), o 133 (.call 71 [(.t 132)]), o 131 (.mv (.t 133)), o 134 (.extract (.t 131) 0), o 135 (.extract (.t 131) 1), o 136 (.extract (.t 131) 2), o 137 (.extract (.t 131) 3), o 7 (.mv (.t 134)), o 8 (.mv (.t 135)), o 9 (.mv (.t 136)), o 10 (.mv (.t 137))])
  (.seq (.reg [o 139 (.mv (.t 7)), o 140 (.mv (.t 8)), o 141 (.mv (.t 9)), o 142 (.mv (.t 10)), o 143 (.call 52 [(.t 139), (.t 140), (.t 141), (.t 142)]), o 138 (.mv (.t 143)), o 144 (.extract (.t 138) 0), o 145 (.extract (.t 138) 1), o 11 (.mv (.t 144)), o 12 (.mv (.t 145))])
  (.seq (.reg [o 147 (.mv (.t 11)), o 148 (.mv (.t 8)), o 149 (.mv (.t 9)), o 150 (.call 33 [(.t 147), (.t 148), (.t 149)]), o 146 (.mv (.t 150)), o 151 (.extract (.t 146) 0), o 152 (.extract (.t 146) 1), o 13 (.mv (.t 151)), o 14 (.mv (.t 152))])
  (.seq (.reg [o 154 (.mv (.t 11)), o 155 (.mv (.t 8)), o 156 (.mv (.t 9)), o 157 (.bin .add (.t 156) (.c (.int .i64 1))), o 158 (.call 33 [(.t 154), (.t 155), (.t 157)]), o 153 (.mv (.t 158)), o 159 (.extract (.t 153) 0), o 160 (.extract (.t 153) 1), o 15 (.mv (.t 159)), o 16 (.mv (.t 160))])
  (.seq (.reg [o 161 (.mv (.t 5)), o 162 (.call 67 [(.t 161)]), o 163 (.mv (.t 162)), og 164 (.mv (.t 12)) 163 true, og 165 (.un .not (.t 164)) 163 true, og 166 (.mv (.t 165)) 163 true, og 167 (.mv (.t 14)) 166 false, og 168 (.mv (.t 167)) 166 false, og 169 (.mv (.t 16)) 168 true, og 170 (.un .not (.t 169)) 168 true, og 171 (.pick (.t 168) (.t 170) (.c (.bool false))) 166 false, og 172 (.mv (.t 171)) 166 false, og 173 (.mv (.t 13)) 172 true, og 174 (.mv (.t 10)) 172 true, og 175 (.call 69 [(.t 173), (.t 174)]) 172 true, og 176 (.pick (.t 172) (.t 175) (.c (.bool false))) 166 false, og 177 (.pick (.t 166) (.c (.bool true)) (.t 176)) 163 true, o 178 (.pick (.t 163) (.t 177) (.c (.bool false))), o 2 (.mv (.t 178))])
  (.ret))))))))))),
  [.tmp 2]⟩
/- loop.example/g03011/laws.FnExactIsSequential -/
def F18 : Fun := ⟨27,
  .seq (.reg [o 2 (.mv (.c (.bool false)))])
  (.seq (.reg [o 3 (.mv (.c (.int .i64 1048576)))])
  (.seq (.reg [o 7 (.mv (.t 0)), o 8 (.mv (.t 3)), o 9 (.call 72 [(.t 7), (.t 8)]), o 3 (.mv (.t 9))])
  (.seq (.seq (.reg [o 10 (.mv (.t 3)), o 11 (.bin .lss (.t 10) (.c (.int .i64 0)))])
  (.cond (.t 11) (.seq (.reg [o 2 (.mv (.c (.bool true)))])
   (.ret)) (.skip)))
  (.seq (.reg [o 12 (.mv (.t 0)), o 13 (.call 74 [(.t 12)]), o 14 (.call 73 [(.t 13)]), o 4 (.mv (.t 14))])
  (.seq (.reg [o 15 (.mv (.t 0)), o 16 (.call 74 [(.t 15)]), o 5 (.mv (.t 16))])
  (.seq (.reg [o 17 (.mv (.t 5)), o 18 (.call 75 [(.t 17)]), o 6 (.mv (.t 18))])
  (.seq (.seq (.reg [o 19 (.mv (.t 6)), o 20 (.mv (.t 4)), o 21 (.binb .neq (.t 19) (.t 20))])
  (.cond (.t 21) (.seq (.reg [o 2 (.mv (.c (.bool false)))])
   (.ret)) (.skip)))
  (.seq (.seq (.reg [o 22 (.mv (.t 5)), o 23 (.mv (.t 0)), o 24 (.call 74 [(.t 23)]), o 25 (.call 76 [(.t 22), (.t 24)]), o 26 (.un .not (.t 25))])
  (.cond (.t 26) (.seq (.reg [o 2 (.mv (.c (.bool false)))])
   (.ret)) (.skip)))
  (.seq (.reg [o 2 (.mv (.c (.bool true)))])
  (.ret)))))))))),
  [.tmp 2]⟩
/- loop.example/g03011/laws.szSessionS -/
def F19 : Fun := ⟨27,
  .seq (.reg [o 4 (.mv (.c (.int .i64 0)))])
  (.seq (.reg [o 6 (.mv (.t 1)), o 7 (.mv (.t 0)), o 8 (.lenL (.t 7)), o 9 (.bin .sub (.t 6) (.t 8)), o 1 (.mv (.t 9))])
  (.seq (.seq (.reg [o 10 (.mv (.t 1)), o 11 (.bin .lss (.t 10) (.c (.int .i64 0)))])
  (.cond (.t 11) (.seq (.reg [o 4 (.mv (.c (.int .i64 (-1))))])
   (.ret)) (.skip)))
  (.seq (.seq (.reg [o 5 (.mv (.c (.int .i64 0)))])
  (.block 0 (.loop (.seq (.seq (.reg [o 12 (.mv (.t 5)), o 13 (.mv (.t 0)), o 14 (.lenL (.t 13)), o 15 (.bin .lss (.t 12) (.t 14))])
    (.cond (.t 15) (.skip) (.exit 0)))
    (.seq (.block 1 (.seq (.reg [o 18 (.mv (.t 0)), o 19 (.mv (.t 5)), o 20 (.iaddr 4 (.t 18) (.t 19)), o 21 (.load (some 4) (.t 20)), o 22 (.mv (.t 1)), o 23 (.call 77 [(.t 21), (.t 22)]), o 1 (.mv (.t 23))])
     (.seq (.reg [o 24 (.mv (.t 1)), o 25 (.bin .lss (.t 24) (.c (.int .i64 0)))])
     (.cond (.t 25) (.seq (.reg [o 4 (.mv (.c (.int .i64 (-1))))])
      (.ret)) (.skip)))))
    (.reg [o 16 (.mv (.t 5)), o 17 (.bin .add (.t 16) (.c (.int .i64 1))), o 5 (.mv (.t 17))]))))))
  (.seq (.reg [o 26 (.mv (.t 1)), o 4 (.mv (.t 26))])
  (.ret))))),
  [.tmp 4]⟩
/- loop.example/g03011/spec.AreSessions -/
def F20 : Fun := ⟨48,
  .seq (.reg [o 2 (.mv (.c (.bool false)))])
  (.seq (.seq (.reg [o 3 (.mv (.c (.int .i64 0)))])
  (.block 0 (.loop (.seq (.seq (.reg [o 5 (.mv (.t 3)), o 6 (.mv (.t 0)), o 7 (.lenL (.t 6)), o 8 (.bin .lss (.t 5) (.t 7))])
    (.cond (.t 8) (.skip) (.exit 0)))
    (.seq (.block 1 (.seq (.reg [o 11 (.mv (.t 0)), o 12 (.mv (.t 3)), o 13 (.iaddr 4 (.t 11) (.t 12)), o 14 (.load (some 4) (.t 13)), o 4 (.new 4 [(.str []), (.str []), (.int .i64 0), (.int .i64 0)]), st (.store 4 (.t 4) (.t 14))])
     (.seq (.reg [o 15 (.faddr 0 (.t 4)), o 16 (.load none (.t 15)), o 17 (.call 78 [(.t 16)]), o 18 (.un .not (.t 17)), o 19 (.mv (.t 18)), og 20 (.mv (.t 0)) 19 false, og 21 (.faddr 0 (.t 4)) 19 false, og 22 (.load none (.t 21)) 19 false, og 23 (.call 79 [(.t 20), (.t 22)]) 19 false, og 24 (.mv (.t 3)) 19 false, og 25 (.bin .neq (.t 23) (.t 24)) 19 false, o 26 (.pick (.t 19) (.c (.bool true)) (.t 25)), o 27 (.mv (.t 26)), og 28 (.faddr 1 (.t 4)) 27 false, og 29 (.load none (.t 28)) 27 false, og 30 (.lenS (.t 29)) 27 false, og 31 (.bin .gtr (.t 30) (.c (.int .i64 2000))) 27 false, o 32 (.pick (.t 27) (.c (.bool true)) (.t 31)), o 33 (.mv (.t 32)), og 34 (.faddr 2 (.t 4)) 33 false, og 35 (.load none (.t 34)) 33 false, og 36 (.call 80 [(.t 35), (.c (.int .i64 0)), (.c (.int .i64 1000000000000))]) 33 false, og 37 (.un .not (.t 36)) 33 false, o 38 (.pick (.t 33) (.c (.bool true)) (.t 37)), o 39 (.mv (.t 38)), og 40 (.faddr 3 (.t 4)) 39 false, og 41 (.load none (.t 40)) 39 false, og 42 (.call 80 [(.t 41), (.c (.int .i64 0)), (.c (.int .i64 1000000000000))]) 39 false, og 43 (.un .not (.t 42)) 39 false, o 44 (.pick (.t 39) (.c (.bool true)) (.t 43))])
     (.cond (.t 44) (.seq (.reg [o 2 (.mv (.c (.bool false)))])
      (.ret)) (.skip)))))
    (.reg [o 9 (.mv (.t 3)), o 10 (.bin .add (.t 9) (.c (.int .i64 1))), o 3 (.mv (.t 10))]))))))
  (.seq (.reg [o 45 (.mv (.t 0)), o 46 (.lenL (.t 45)), o 47 (.bin .leq (.t 46) (.c (.int .i64 8))), o 2 (.mv (.t 47))])
  (.ret))),
  [.tmp 2]⟩
/- loop.example/g03011/laws.toSessionS -/
def F21 : Fun := ⟨23,
  .seq (.reg [o 2 (.mv (.c .nsl))])
  (.seq (.reg [o 5 (.mv (.t 0)), o 6 (.lenL (.t 5)), o 7 (.mkslice 4 [(.str []), (.str []), (.int .i64 0), (.int .i64 0)] 48 (.t 6) (.t 6)), o 3 (.mv (.t 7))])
  (.seq (.seq (.reg [o 4 (.mv (.c (.int .i64 0)))])
  (.block 0 (.loop (.seq (.seq (.reg [o 8 (.mv (.t 4)), o 9 (.mv (.t 0)), o 10 (.lenL (.t 9)), o 11 (.bin .lss (.t 8) (.t 10))])
    (.cond (.t 11) (.skip) (.exit 0)))
    (.seq (.block 1 (.reg [o 14 (.mv (.t 3)), o 15 (.mv (.t 4)), o 16 (.mv (.t 0)), o 17 (.mv (.t 4)), o 18 (.iaddr 4 (.t 16) (.t 17)), o 19 (.load (some 4) (.t 18)), o 20 (.call 81 [(.t 19)]), o 21 (.iaddr 4 (.t 14) (.t 15)), st (.store 4 (.t 21) (.t 20))]))
    (.reg [o 12 (.mv (.t 4)), o 13 (.bin .add (.t 12) (.c (.int .i64 1))), o 4 (.mv (.t 13))]))))))
  (.seq (.reg [o 22 (.mv (.t 3)), o 2 (.mv (.t 22))])
  (.ret)))),
  [.tmp 2]⟩
/- loop.example/g03011/impl.AreSessions -/
def F22 : Fun := ⟨48,
  .seq (.reg [o 2 (.mv (.c (.bool false)))])
  (.seq (.reg [o 6 (.mkmap), o 3 (.mv (.t 6))])
  (.seq (.seq (.reg [o 7 (.mv (.t 0)), o 8 (.lenL (.t 7)), o 9 (.mv (.c (.int .i64 0)))])
  (.block 0 (.loop (.seq (.reg [o 10 (.bin .lss (.t 9) (.t 8))])
    (.seq (.cond (.t 10) (.skip) (.exit 0))
    (.seq (.block 1 (.seq (.reg [o 11 (.iaddr 4 (.t 7) (.t 9)), o 12 (.load (some 4) (.t 11)), o 5 (.new 4 [(.str []), (.str []), (.int .i64 0), (.int .i64 0)]), st (.store 4 (.t 5) (.t 12))])
     (.seq (.seq (.reg [o 13 (.mv (.t 3)), o 14 (.faddr 0 (.t 5)), o 15 (.load none (.t 14)), o 16 (.lookup 1 (.bool false) false (.t 13) (.t 15)), o 17 (.mv (.t 16)), og 18 (.faddr 0 (.t 5)) 17 false, og 19 (.load none (.t 18)) 17 false, og 20 (.call 82 [(.t 19)]) 17 false, og 21 (.un .not (.t 20)) 17 false, o 22 (.pick (.t 17) (.c (.bool true)) (.t 21)), o 23 (.mv (.t 22)), og 24 (.faddr 1 (.t 5)) 23 false, og 25 (.load none (.t 24)) 23 false, og 26 (.lenS (.t 25)) 23 false, og 27 (.bin .gtr (.t 26) (.c (.int .i64 2000))) 23 false, o 28 (.pick (.t 23) (.c (.bool true)) (.t 27)), o 29 (.mv (.t 28)), og 30 (.faddr 2 (.t 5)) 29 false, og 31 (.load none (.t 30)) 29 false, og 32 (.call 83 [(.t 31), (.c (.int .i64 0)), (.c (.int .i64 1000000000000))]) 29 false, og 33 (.un .not (.t 32)) 29 false, o 34 (.pick (.t 29) (.c (.bool true)) (.t 33)), o 35 (.mv (.t 34)), og 36 (.faddr 3 (.t 5)) 35 false, og 37 (.load none (.t 36)) 35 false, og 38 (.call 83 [(.t 37), (.c (.int .i64 0)), (.c (.int .i64 1000000000000))]) 35 false, og 39 (.un .not (.t 38)) 35 false, o 40 (.pick (.t 35) (.c (.bool true)) (.t 39))])
     (.cond (.t 40) (.seq (.reg [o 2 (.mv (.c (.bool false)))])
      (.ret)) (.skip)))
     (.reg [o 41 (.mv (.t 3)), o 42 (.faddr 0 (.t 5)), o 43 (.load none (.t 42)), st (.mupd 1 (.t 41) (.t 43) (.c (.bool true)))]))))
    (.reg [o 44 (.bin .add (.t 9) (.c (.int .i64 1))), o 9 (.mv (.t 44))])))))))
  (.seq (.reg [o 45 (.mv (.t 0)), o 46 (.lenL (.t 45)), o 47 (.bin .leq (.t 46) (.c (.int .i64 8))), o 2 (.mv (.t 47))])
  (.ret)))),
  [.tmp 2]⟩
/- loop.example/g03011/laws.eqSessionS -/
def F23 : Fun := ⟨27,
  .seq (.reg [o 4 (.mv (.c (.bool false)))])
  (.seq (.seq (.reg [o 6 (.mv (.t 0)), o 7 (.lenL (.t 6)), o 8 (.mv (.t 1)), o 9 (.lenL (.t 8)), o 10 (.bin .neq (.t 7) (.t 9))])
  (.cond (.t 10) (.seq (.reg [o 4 (.mv (.c (.bool false)))])
   (.ret)) (.skip)))
  (.seq (.seq (.reg [o 5 (.mv (.c (.int .i64 0)))])
  (.block 0 (.loop (.seq (.seq (.reg [o 11 (.mv (.t 5)), o 12 (.mv (.t 0)), o 13 (.lenL (.t 12)), o 14 (.bin .lss (.t 11) (.t 13))])
    (.cond (.t 14) (.skip) (.exit 0)))
    (.seq (.block 1 (.seq (.reg [o 17 (.mv (.t 0)), o 18 (.mv (.t 5)), o 19 (.iaddr 4 (.t 17) (.t 18)), o 20 (.load (some 4) (.t 19)), o 21 (.mv (.t 1)), o 22 (.mv (.t 5)), o 23 (.iaddr 4 (.t 21) (.t 22)), o 24 (.load (some 4) (.t 23)), o 25 (.callF 84 [(.t 20), (.t 24)]), o 26 (.un .not (.t 25))])
     (.cond (.t 26) (.seq (.reg [o 4 (.mv (.c (.bool false)))])
      (.ret)) (.skip))))
    (.reg [o 15 (.mv (.t 5)), o 16 (.bin .add (.t 15) (.c (.int .i64 1))), o 5 (.mv (.t 16))]))))))
  (.seq (.reg [o 4 (.mv (.c (.bool true)))])
  (.ret)))),
  [.tmp 4]⟩
/- loop.example/g03011/spec.DropHolds -/
def F24 : Fun := ⟨28,
  .seq (.reg [o 4 (.mv (.c .nsl))])
  (.seq (.reg [o 7 (.bslice 4 [(.str []), (.str []), (.int .i64 0), (.int .i64 0)] 0 []), o 8 (.mv (.t 0)), o 9 (.append 4 48 (.t 7) (.t 8)), o 5 (.mv (.t 9))])
  (.seq (.seq (.reg [o 6 (.mv (.c (.int .i64 0)))])
  (.block 0 (.loop (.seq (.seq (.reg [o 10 (.mv (.t 6)), o 11 (.mv (.t 5)), o 12 (.lenL (.t 11)), o 13 (.bin .lss (.t 10) (.t 12))])
    (.cond (.t 13) (.skip) (.exit 0)))
    (.seq (.block 1 (.seq (.reg [o 16 (.mv (.t 5)), o 17 (.mv (.t 6)), o 18 (.iaddr 4 (.t 16) (.t 17)), o 19 (.faddr 2 (.t 18)), o 20 (.load none (.t 19)), o 21 (.mv (.t 1)), o 22 (.bin .eql (.t 20) (.t 21))])
     (.cond (.t 22) (.reg [o 23 (.mv (.t 5)), o 24 (.mv (.t 6)), o 25 (.iaddr 4 (.t 23) (.t 24)), o 26 (.faddr 2 (.t 25)), st (.store 1 (.t 26) (.c (.int .i64 0)))]) (.skip))))
    (.reg [o 14 (.mv (.t 6)), o 15 (.bin .add (.t 14) (.c (.int .i64 1))), o 6 (.mv (.t 15))]))))))
  (.seq (.reg [o 27 (.mv (.t 5)), o 4 (.mv (.t 27))])
  (.ret)))),
  [.tmp 4]⟩
/- loop.example/g03011/impl.DropHolds -/
def F25 : Fun := ⟨27,
  .seq (.reg [o 4 (.mv (.c .nsl))])
  (.seq (.reg [o 8 (.mv (.t 0)), o 9 (.call 85 [(.t 8)]), o 5 (.mv (.t 9))])
  (.seq (.seq (.reg [o 10 (.mv (.t 0)), o 11 (.lenL (.t 10)), o 12 (.mv (.c (.int .i64 0)))])
  (.block 0 (.loop (.seq (.reg [o 13 (.bin .lss (.t 12) (.t 11))])
    (.seq (.cond (.t 13) (.skip) (.exit 0))
    (.seq (.block 1 (.seq (.reg [o 14 (.mv (.t 12)), o 15 (.iaddr 4 (.t 10) (.t 12)), o 16 (.load (some 4) (.t 15)), o 7 (.new 4 [(.str []), (.str []), (.int .i64 0), (.int .i64 0)]), o 6 (.mv (.t 14)), st (.store 4 (.t 7) (.t 16))])
     (.seq (.reg [o 17 (.faddr 2 (.t 7)), o 18 (.load none (.t 17)), o 19 (.mv (.t 1)), o 20 (.bin .eql (.t 18) (.t 19))])
     (.cond (.t 20) (.reg [o 21 (.mv (.t 5)), o 22 (.mv (.t 6)), o 23 (.iaddr 4 (.t 21) (.t 22)), o 24 (.faddr 2 (.t 23)), st (.store 1 (.t 24) (.c (.int .i64 0)))]) (.skip)))))
    (.reg [o 25 (.bin .add (.t 12) (.c (.int .i64 1))), o 12 (.mv (.t 25))])))))))
  (.seq (.reg [o 26 (.mv (.t 5)), o 4 (.mv (.t 26))])
  (.ret)))),
  [.tmp 4]⟩
/- loop.example/g03011/laws.markSessionS -/
def F26 : Fun := ⟨43,
  .seq (.reg [o 4 (.mv (.c (.int .i64 0)))])
  (.seq (.seq (.reg [o 5 (.mv (.c (.int .i64 0)))])
  (.block 0 (.loop (.seq (.seq (.reg [o 6 (.mv (.t 5)), o 7 (.mv (.t 0)), o 8 (.lenL (.t 7)), o 9 (.bin .lss (.t 6) (.t 8))])
    (.cond (.t 9) (.skip) (.exit 0)))
    (.seq (.block 1 (.seq (.reg [o 12 (.mv (.t 0)), o 13 (.mv (.t 5)), o 14 (.mv (.t 1)), o 15 (.call 86 [(.t 14)]), o 16 (.iaddr 4 (.t 12) (.t 13)), o 17 (.faddr 0 (.t 16)), st (.store 1 (.t 17) (.t 15))])
     (.seq (.reg [o 18 (.mv (.t 1)), o 19 (.bin .add (.t 18) (.c (.int .i64 1))), o 1 (.mv (.t 19))])
     (.seq (.reg [o 20 (.mv (.t 0)), o 21 (.mv (.t 5)), o 22 (.mv (.t 1)), o 23 (.call 86 [(.t 22)]), o 24 (.iaddr 4 (.t 20) (.t 21)), o 25 (.faddr 1 (.t 24)), st (.store 1 (.t 25) (.t 23))])
     (.seq (.reg [o 26 (.mv (.t 1)), o 27 (.bin .add (.t 26) (.c (.int .i64 1))), o 1 (.mv (.t 27))])
     (.seq (.reg [o 28 (.mv (.t 0)), o 29 (.mv (.t 5)), o 30 (.mv (.t 1)), o 31 (.iaddr 4 (.t 28) (.t 29)), o 32 (.faddr 2 (.t 31)), st (.store 1 (.t 32) (.t 30))])
     (.seq (.reg [o 33 (.mv (.t 1)), o 34 (.bin .add (.t 33) (.c (.int .i64 1))), o 1 (.mv (.t 34))])
     (.seq (.reg [o 35 (.mv (.t 0)), o 36 (.mv (.t 5)), o 37 (.mv (.t 1)), o 38 (.iaddr 4 (.t 35) (.t 36)), o 39 (.faddr 3 (.t 38)), st (.store 1 (.t 39) (.t 37))])
     (.reg [o 40 (.mv (.t 1)), o 41 (.bin .add (.t 40) (.c (.int .i64 1))), o 1 (.mv (.t 41))])))))))))
    (.reg [o 10 (.mv (.t 5)), o 11 (.bin .add (.t 10) (.c (.int .i64 1))), o 5 (.mv (.t 11))]))))))
  (.seq (.reg [o 42 (.mv (.t 1)), o 4 (.mv (.t 42))])
  (.ret))),
  [.tmp 4]⟩
/- loop.example/g03011/laws.heldSessionS -/
def F27 : Fun := ⟨51,
  .seq (.reg [o 4 (.mv (.c (.int .i64 0)))])
  (.seq (.seq (.reg [o 5 (.mv (.c (.int .i64 0)))])
  (.block 0 (.loop (.seq (.seq (.reg [o 6 (.mv (.t 5)), o 7 (.mv (.t 0)), o 8 (.lenL (.t 7)), o 9 (.bin .lss (.t 6) (.t 8))])
    (.cond (.t 9) (.skip) (.exit 0)))
    (.seq (.block 1 (.seq (.seq (.reg [o 12 (.mv (.t 0)), o 13 (.mv (.t 5)), o 14 (.iaddr 4 (.t 12) (.t 13)), o 15 (.faddr 0 (.t 14)), o 16 (.load none (.t 15)), o 17 (.mv (.t 1)), o 18 (.callF 86 [(.t 17)]), o 19 (.bin .neq (.t 16) (.t 18))])
     (.cond (.t 19) (.seq (.reg [o 4 (.mv (.c (.int .i64 (-1))))])
      (.ret)) (.skip)))
     (.seq (.reg [o 20 (.mv (.t 1)), o 21 (.bin .add (.t 20) (.c (.int .i64 1))), o 1 (.mv (.t 21))])
     (.seq (.seq (.reg [o 22 (.mv (.t 0)), o 23 (.mv (.t 5)), o 24 (.iaddr 4 (.t 22) (.t 23)), o 25 (.faddr 1 (.t 24)), o 26 (.load none (.t 25)), o 27 (.mv (.t 1)), o 28 (.callF 86 [(.t 27)]), o 29 (.bin .neq (.t 26) (.t 28))])
     (.cond (.t 29) (.seq (.reg [o 4 (.mv (.c (.int .i64 (-1))))])
      (.ret)) (.skip)))
     (.seq (.reg [o 30 (.mv (.t 1)), o 31 (.bin .add (.t 30) (.c (.int .i64 1))), o 1 (.mv (.t 31))])
     (.seq (.seq (.reg [o 32 (.mv (.t 0)), o 33 (.mv (.t 5)), o 34 (.iaddr 4 (.t 32) (.t 33)), o 35 (.faddr 2 (.t 34)), o 36 (.load none (.t 35)), o 37 (.mv (.t 1)), o 38 (.bin .neq (.t 36) (.t 37))])
     (.cond (.t 38) (.seq (.reg [o 4 (.mv (.c (.int .i64 (-1))))])
      (.ret)) (.skip)))
     (.seq (.reg [o 39 (.mv (.t 1)), o 40 (.bin .add (.t 39) (.c (.int .i64 1))), o 1 (.mv (.t 40))])
     (.seq (.seq (.reg [o 41 (.mv (.t 0)), o 42 (.mv (.t 5)), o 43 (.iaddr 4 (.t 41) (.t 42)), o 44 (.faddr 3 (.t 43)), o 45 (.load none (.t 44)), o 46 (.mv (.t 1)), o 47 (.bin .neq (.t 45) (.t 46))])
     (.cond (.t 47) (.seq (.reg [o 4 (.mv (.c (.int .i64 (-1))))])
      (.ret)) (.skip)))
     (.reg [o 48 (.mv (.t 1)), o 49 (.bin .add (.t 48) (.c (.int .i64 1))), o 1 (.mv (.t 49))])))))))))
    (.reg [o 10 (.mv (.t 5)), o 11 (.bin .add (.t 10) (.c (.int .i64 1))), o 5 (.mv (.t 11))]))))))
  (.seq (.reg [o 50 (.mv (.t 1)), o 4 (.mv (.t 50))])
  (.ret))),
  [.tmp 4]⟩
/- loop.example/g03011/spec.SweepSessions -/
def F28 : Fun := ⟨52,
  .seq (.reg [o 6 (.mv (.c .nsl))])
  (.seq (.seq (.reg [o 9 (.mv (.t 1)), o 10 (.call 80 [(.t 9), (.c (.int .i64 0)), (.c (.int .i64 1000000000000))]), o 11 (.un .not (.t 10)), o 12 (.mv (.t 11)), og 13 (.mv (.t 2)) 12 false, og 14 (.call 80 [(.t 13), (.c (.int .i64 0)), (.c (.int .i64 1000000000000))]) 12 false, og 15 (.un .not (.t 14)) 12 false, o 16 (.pick (.t 12) (.c (.bool true)) (.t 15))])
  (.cond (.t 16) (.seq (.reg [o 17 (.bslice 4 [(.str []), (.str []), (.int .i64 0), (.int .i64 0)] 0 []), o 18 (.mv (.t 0)), o 19 (.append 4 48 (.t 17) (.t 18)), o 6 (.mv (.t 19))])
   (.ret)) (.skip)))
  (.seq (.reg [o 20 (.bslice 4 [(.str []), (.str []), (.int .i64 0), (.int .i64 0)] 0 []), o 7 (.mv (.t 20))])
  (.seq (.seq (.reg [o 8 (.mv (.c (.int .i64 0)))])
  (.block 0 (.loop (.seq (.seq (.reg [o 21 (.mv (.t 8)), o 22 (.mv (.t 0)), o 23 (.lenL (.t 22)), o 24 (.bin .lss (.t 21) (.t 23))])
    (.cond (.t 24) (.skip) (.exit 0)))
    (.seq (.block 1 (.seq (.reg [o 27 (.mv (.t 0)), o 28 (.mv (.t 8)), o 29 (.iaddr 4 (.t 27) (.t 28)), o 30 (.faddr 2 (.t 29)), o 31 (.load none (.t 30)), o 32 (.bin .neq (.t 31) (.c (.int .i64 0))), o 33 (.mv (.t 32)), og 34 (.mv (.t 0)) 33 false, og 35 (.mv (.t 8)) 33 false, og 36 (.iaddr 4 (.t 34) (.t 35)) 33 false, og 37 (.faddr 3 (.t 36)) 33 false, og 38 (.load none (.t 37)) 33 false, og 39 (.mv (.t 1)) 33 false, og 40 (.mv (.t 2)) 33 false, og 41 (.bin .sub (.t 39) (.t 40)) 33 false, og 42 (.bin .geq (.t 38) (.t 41)) 33 false, o 43 (.pick (.t 33) (.c (.bool true)) (.t 42))])
     (.cond (.t 43) (.reg [o 44 (.mv (.t 7)), o 45 (.mv (.t 0)), o 46 (.mv (.t 8)), o 47 (.iaddr 4 (.t 45) (.t 46)), o 48 (.load (some 4) (.t 47)), o 49 (.bslice 4 [(.str []), (.str []), (.int .i64 0), (.int .i64 0)] 1 [(0, (.t 48))]), o 50 (.append 4 48 (.t 44) (.t 49)), o 7 (.mv (.t 50))]) (.skip))))
    (.reg [o 25 (.mv (.t 8)), o 26 (.bin .add (.t 25) (.c (.int .i64 1))), o 8 (.mv (.t 26))]))))))
  (.seq (.reg [o 51 (.mv (.t 7)), o 6 (.mv (.t 51))])
  (.ret))))),
  [.tmp 6]⟩
/- loop.example/g03011/impl.SweepSessions -/
def F29 : Fun := ⟨44,
  .seq (.reg [o 6 (.mv (.c .nsl))])
  (.seq (.seq (.reg [o 10 (.mv (.t 1)), o 11 (.call 83 [(.t 10), (.c (.int .i64 0)), (.c (.int .i64 1000000000000))]), o 12 (.un .not (.t 11)), o 13 (.mv (.t 12)), og 14 (.mv (.t 2)) 13 false, og 15 (.call 83 [(.t 14), (.c (.int .i64 0)), (.c (.int .i64 1000000000000))]) 13 false, og 16 (.un .not (.t 15)) 13 false, o 17 (.pick (.t 13) (.c (.bool true)) (.t 16))])
  (.cond (.t 17) (.seq (.reg [o 18 (.mv (.t 0)), o 19 (.call 85 [(.t 18)]), o 6 (.mv (.t 19))])
   (.ret)) (.skip)))
  (.seq (.reg [o 20 (.bslice 4 [(.str []), (.str []), (.int .i64 0), (.int .i64 0)] 0 []), o 7 (.mv (.t 20))])
  (.seq (.seq (.reg [o 21 (.mv (.t 0)), o 22 (.lenL (.t 21)), o 23 (.mv (.c (.int .i64 0)))])
  (.block 0 (.loop (.seq (.reg [o 24 (.bin .lss (.t 23) (.t 22))])
    (.seq (.cond (.t 24) (.skip) (.exit 0))
    (.seq (.block 1 (.seq (.reg [o 25 (.iaddr 4 (.t 21) (.t 23)), o 26 (.load (some 4) (.t 25)), o 9 (.new 4 [(.str []), (.str []), (.int .i64 0), (.int .i64 0)]), st (.store 4 (.t 9) (.t 26))])
     (.seq (.reg [o 27 (.faddr 2 (.t 9)), o 28 (.load none (.t 27)), o 29 (.bin .neq (.t 28) (.c (.int .i64 0))), o 30 (.mv (.t 29)), og 31 (.faddr 3 (.t 9)) 30 false, og 32 (.load none (.t 31)) 30 false, og 33 (.mv (.t 1)) 30 false, og 34 (.mv (.t 2)) 30 false, og 35 (.bin .sub (.t 33) (.t 34)) 30 false, og 36 (.bin .geq (.t 32) (.t 35)) 30 false, o 37 (.pick (.t 30) (.c (.bool true)) (.t 36))])
     (.cond (.t 37) (.reg [o 38 (.mv (.t 7)), o 39 (.load (some 4) (.t 9)), o 40 (.bslice 4 [(.str []), (.str []), (.int .i64 0), (.int .i64 0)] 1 [(0, (.t 39))]), o 41 (.append 4 48 (.t 38) (.t 40)), o 7 (.mv (.t 41))]) (.skip)))))
    (.reg [o 42 (.bin .add (.t 23) (.c (.int .i64 1))), o 23 (.mv (.t 42))])))))))
  (.seq (.reg [o 43 (.mv (.t 7)), o 6 (.mv (.t 43))])
  (.ret))))),
  [.tmp 6]⟩
/- loop.example/g03011/laws.szLineS -/
def F30 : Fun := ⟨27,
  .seq (.reg [o 4 (.mv (.c (.int .i64 0)))])
  (.seq (.reg [o 6 (.mv (.t 1)), o 7 (.mv (.t 0)), o 8 (.lenL (.t 7)), o 9 (.bin .sub (.t 6) (.t 8)), o 1 (.mv (.t 9))])
  (.seq (.seq (.reg [o 10 (.mv (.t 1)), o 11 (.bin .lss (.t 10) (.c (.int .i64 0)))])
  (.cond (.t 11) (.seq (.reg [o 4 (.mv (.c (.int .i64 (-1))))])
   (.ret)) (.skip)))
  (.seq (.seq (.reg [o 5 (.mv (.c (.int .i64 0)))])
  (.block 0 (.loop (.seq (.seq (.reg [o 12 (.mv (.t 5)), o 13 (.mv (.t 0)), o 14 (.lenL (.t 13)), o 15 (.bin .lss (.t 12) (.t 14))])
    (.cond (.t 15) (.skip) (.exit 0)))
    (.seq (.block 1 (.seq (.reg [o 18 (.mv (.t 0)), o 19 (.mv (.t 5)), o 20 (.iaddr 4 (.t 18) (.t 19)), o 21 (.load (some 4) (.t 20)), o 22 (.mv (.t 1)), o 23 (.call 87 [(.t 21), (.t 22)]), o 1 (.mv (.t 23))])
     (.seq (.reg [o 24 (.mv (.t 1)), o 25 (.bin .lss (.t 24) (.c (.int .i64 0)))])
     (.cond (.t 25) (.seq (.reg [o 4 (.mv (.c (.int .i64 (-1))))])
      (.ret)) (.skip)))))
    (.reg [o 16 (.mv (.t 5)), o 17 (.bin .add (.t 16) (.c (.int .i64 1))), o 5 (.mv (.t 17))]))))))
  (.seq (.reg [o 26 (.mv (.t 1)), o 4 (.mv (.t 26))])
  (.ret))))),
  [.tmp 4]⟩
/- loop.example/g03011/spec.ReadLine -/
def F31 : Fun := ⟨49,
  .seq (.reg [o 6 (.mv (.c .nsl)), o 7 (.mv (.c (.bool false)))])
  (.seq (.seq (.reg [o 8 (.mv (.t 0)), o 9 (.call 67 [(.t 8)]), o 10 (.un .not (.t 9)), o 11 (.mv (.t 10)), og 12 (.mv (.t 1)) 11 false, og 13 (.mv (.t 0)) 11 false, og 14 (.lenL (.t 13)) 11 false, og 15 (.bin .sub (.t 14) (.c (.int .i64 1))) 11 false, og 16 (.call 80 [(.t 12), (.c (.int .i64 0)), (.t 15)]) 11 false, og 17 (.un .not (.t 16)) 11 false, o 18 (.pick (.t 11) (.c (.bool true)) (.t 17)), o 19 (.mv (.t 18)), og 20 (.mv (.t 0)) 19 false, og 21 (.mv (.t 1)) 19 false, og 22 (.iaddr 4 (.t 20) (.t 21)) 19 false, og 23 (.faddr 0 (.t 22)) 19 false, og 24 (.load none (.t 23)) 19 false, og 25 (.bin .rem (.t 24) (.c (.int .i64 2))) 19 false, og 26 (.bin .eql (.t 25) (.c (.int .i64 1))) 19 false, o 27 (.pick (.t 19) (.c (.bool true)) (.t 26)), o 28 (.mv (.t 27)), og 29 (.mv (.t 0)) 28 false, og 30 (.mv (.t 1)) 28 false, og 31 (.iaddr 4 (.t 29) (.t 30)) 28 false, og 32 (.faddr 2 (.t 31)) 28 false, og 33 (.load none (.t 32)) 28 false, og 34 (.mv (.t 2)) 28 false, og 35 (.bin .neq (.t 33) (.t 34)) 28 false, o 36 (.pick (.t 28) (.c (.bool true)) (.t 35)), o 37 (.mv (.t 36)), og 38 (.mv (.t 2)) 37 false, og 39 (.bin .lss (.t 38) (.c (.int .i64 1))) 37 false, o 40 (.pick (.t 37) (.c (.bool true)) (.t 39))])
  (.cond (.t 40) (.seq (.reg [o 41 (.bslice 1 [(.int .i64 0)] 0 []), o 6 (.mv (.t 41)), o 7 (.mv (.c (.bool false)))])
   (.ret)) (.skip)))
  (.seq (.reg [o 42 (.bslice 1 [(.int .i64 0)] 0 []), o 43 (.mv (.t 0)), o 44 (.mv (.t 1)), o 45 (.iaddr 4 (.t 43) (.t 44)), o 46 (.faddr 3 (.t 45)), o 47 (.load none (.t 46)), o 48 (.append 1 8 (.t 42) (.t 47)), o 6 (.mv (.t 48)), o 7 (.mv (.c (.bool true)))])
  (.ret))),
  [.tmp 6, .tmp 7]⟩
/- loop.example/g03011/laws.toLineS -/
def F32 : Fun := ⟨23,
  .seq (.reg [o 2 (.mv (.c .nsl))])
  (.seq (.reg [o 5 (.mv (.t 0)), o 6 (.lenL (.t 5)), o 7 (.mkslice 4 [(.int .i64 0), (.int .i64 0), (.int .i64 0), .nsl] 48 (.t 6) (.t 6)), o 3 (.mv (.t 7))])
  (.seq (.seq (.reg [o 4 (.mv (.c (.int .i64 0)))])
  (.block 0 (.loop (.seq (.seq (.reg [o 8 (.mv (.t 4)), o 9 (.mv (.t 0)), o 10 (.lenL (.t 9)), o 11 (.bin .lss (.t 8) (.t 10))])
    (.cond (.t 11) (.skip) (.exit 0)))
    (.seq (.block 1 (.reg [o 14 (.mv (.t 3)), o 15 (.mv (.t 4)), o 16 (.mv (.t 0)), o 17 (.mv (.t 4)), o 18 (.iaddr 4 (.t 16) (.t 17)), o 19 (.load (some 4) (.t 18)), o 20 (.call 88 [(.t 19)]), o 21 (.iaddr 4 (.t 14) (.t 15)), st (.store 4 (.t 21) (.t 20))]))
    (.reg [o 12 (.mv (.t 4)), o 13 (.bin .add (.t 12) (.c (.int .i64 1))), o 4 (.mv (.t 13))]))))))
  (.seq (.reg [o 22 (.mv (.t 3)), o 2 (.mv (.t 22))])
  (.ret)))),
  [.tmp 2]⟩
/- loop.example/g03011/impl.ReadLine -/
def F33 : Fun := ⟨47,
  .seq (.reg [o 6 (.mv (.c .nsl)), o 7 (.mv (.c (.bool false)))])
  (.seq (.seq (.reg [o 8 (.mv (.t 0)), o 9 (.call 89 [(.t 8)]), o 10 (.un .not (.t 9)), o 11 (.mv (.t 10)), og 12 (.mv (.t 1)) 11 false, og 13 (.mv (.t 0)) 11 false, og 14 (.lenL (.t 13)) 11 false, og 15 (.bin .sub (.t 14) (.c (.int .i64 1))) 11 false, og 16 (.call 83 [(.t 12), (.c (.int .i64 0)), (.t 15)]) 11 false, og 17 (.un .not (.t 16)) 11 false, o 18 (.pick (.t 11) (.c (.bool true)) (.t 17)), o 19 (.mv (.t 18)), og 20 (.mv (.t 0)) 19 false, og 21 (.mv (.t 1)) 19 false, og 22 (.iaddr 4 (.t 20) (.t 21)) 19 false, og 23 (.faddr 0 (.t 22)) 19 false, og 24 (.load none (.t 23)) 19 false, og 25 (.bin .rem (.t 24) (.c (.int .i64 2))) 19 false, og 26 (.bin .eql (.t 25) (.c (.int .i64 1))) 19 false, o 27 (.pick (.t 19) (.c (.bool true)) (.t 26)), o 28 (.mv (.t 27)), og 29 (.mv (.t 0)) 28 false, og 30 (.mv (.t 1)) 28 false, og 31 (.iaddr 4 (.t 29) (.t 30)) 28 false, og 32 (.faddr 2 (.t 31)) 28 false, og 33 (.load none (.t 32)) 28 false, og 34 (.mv (.t 2)) 28 false, og 35 (.bin .neq (.t 33) (.t 34)) 28 false, o 36 (.pick (.t 28) (.c (.bool true)) (.t 35)), o 37 (.mv (.t 36)), og 38 (.mv (.t 2)) 37 false, og 39 (.bin .lss (.t 38) (.c (.int .i64 1))) 37 false, o 40 (.pick (.t 37) (.c (.bool true)) (.t 39))])
  (.cond (.t 40) (.seq (.reg [o 6 (.mv (.c .nsl)), o 7 (.mv (.c (.bool false)))])
   (.ret)) (.skip)))
  (.seq (.reg [o 41 (.mv (.t 0)), o 42 (.mv (.t 1)), o 43 (.iaddr 4 (.t 41) (.t 42)), o 44 (.faddr 3 (.t 43)), o 45 (.load none (.t 44)), o 46 (.call 90 [(.t 45)]), o 6 (.mv (.t 46)), o 7 (.mv (.c (.bool true)))])
  (.ret))),
  [.tmp 6, .tmp 7]⟩
/- loop.example/g03011/laws.eqIntS -/
def F34 : Fun := ⟨26,
  .seq (.reg [o 4 (.mv (.c (.bool false)))])
  (.seq (.seq (.reg [o 6 (.mv (.t 0)), o 7 (.lenL (.t 6)), o 8 (.mv (.t 1)), o 9 (.lenL (.t 8)), o 10 (.bin .neq (.t 7) (.t 9))])
  (.cond (.t 10) (.seq (.reg [o 4 (.mv (.c (.bool false)))])
   (.ret)) (.skip)))
  (.seq (.seq (.reg [o 5 (.mv (.c (.int .i64 0)))])
  (.block 0 (.loop (.seq (.seq (.reg [o 11 (.mv (.t 5)), o 12 (.mv (.t 0)), o 13 (.lenL (.t 12)), o 14 (.bin .lss (.t 11) (.t 13))])
    (.cond (.t 14) (.skip) (.exit 0)))
    (.seq (.block 1 (.seq (.reg [o 17 (.mv (.t 0)), o 18 (.mv (.t 5)), o 19 (.iaddr 1 (.t 17) (.t 18)), o 20 (.load none (.t 19)), o 21 (.mv (.t 1)), o 22 (.mv (.t 5)), o 23 (.iaddr 1 (.t 21) (.t 22)), o 24 (.load none (.t 23)), o 25 (.bin .neq (.t 20) (.t 24))])
     (.cond (.t 25) (.seq (.reg [o 4 (.mv (.c (.bool false)))])
      (.ret)) (.skip))))
    (.reg [o 15 (.mv (.t 5)), o 16 (.bin .add (.t 15) (.c (.int .i64 1))), o 5 (.mv (.t 16))]))))))
  (.seq (.reg [o 4 (.mv (.c (.bool true)))])
  (.ret)))),
  [.tmp 4]⟩
/- loop.example/g03011/laws.eqLineS -/
def F35 : Fun := ⟨27,
  .seq (.reg [o 4 (.mv (.c (.bool false)))])
  (.seq (.seq (.reg [o 6 (.mv (.t 0)), o 7 (.lenL (.t 6)), o 8 (.mv (.t 1)), o 9 (.lenL (.t 8)), o 10 (.bin .neq (.t 7) (.t 9))])
  (.cond (.t 10) (.seq (.reg [o 4 (.mv (.c (.bool false)))])
   (.ret)) (.skip)))
  (.seq (.seq (.reg [o 5 (.mv (.c (.int .i64 0)))])
  (.block 0 (.loop (.seq (.seq (.reg [o 11 (.mv (.t 5)), o 12 (.mv (.t 0)), o 13 (.lenL (.t 12)), o 14 (.bin .lss (.t 11) (.t 13))])
    (.cond (.t 14) (.skip) (.exit 0)))
    (.seq (.block 1 (.seq (.reg [o 17 (.mv (.t 0)), o 18 (.mv (.t 5)), o 19 (.iaddr 4 (.t 17) (.t 18)), o 20 (.load (some 4) (.t 19)), o 21 (.mv (.t 1)), o 22 (.mv (.t 5)), o 23 (.iaddr 4 (.t 21) (.t 22)), o 24 (.load (some 4) (.t 23)), o 25 (.callF 91 [(.t 20), (.t 24)]), o 26 (.un .not (.t 25))])
     (.cond (.t 26) (.seq (.reg [o 4 (.mv (.c (.bool false)))])
      (.ret)) (.skip))))
    (.reg [o 15 (.mv (.t 5)), o 16 (.bin .add (.t 15) (.c (.int .i64 1))), o 5 (.mv (.t 16))]))))))
  (.seq (.reg [o 4 (.mv (.c (.bool true)))])
  (.ret)))),
  [.tmp 4]⟩
/- loop.example/g03011/laws.markLineS -/
def F36 : Fun := ⟨41,
  .seq (.reg [o 4 (.mv (.c (.int .i64 0)))])
  (.seq (.seq (.reg [o 5 (.mv (.c (.int .i64 0)))])
  (.block 0 (.loop (.seq (.seq (.reg [o 6 (.mv (.t 5)), o 7 (.mv (.t 0)), o 8 (.lenL (.t 7)), o 9 (.bin .lss (.t 6) (.t 8))])
    (.cond (.t 9) (.skip) (.exit 0)))
    (.seq (.block 1 (.seq (.reg [o 12 (.mv (.t 0)), o 13 (.mv (.t 5)), o 14 (.mv (.t 1)), o 15 (.iaddr 4 (.t 12) (.t 13)), o 16 (.faddr 0 (.t 15)), st (.store 1 (.t 16) (.t 14))])
     (.seq (.reg [o 17 (.mv (.t 1)), o 18 (.bin .add (.t 17) (.c (.int .i64 1))), o 1 (.mv (.t 18))])
     (.seq (.reg [o 19 (.mv (.t 0)), o 20 (.mv (.t 5)), o 21 (.mv (.t 1)), o 22 (.iaddr 4 (.t 19) (.t 20)), o 23 (.faddr 1 (.t 22)), st (.store 1 (.t 23) (.t 21))])
     (.seq (.reg [o 24 (.mv (.t 1)), o 25 (.bin .add (.t 24) (.c (.int .i64 1))), o 1 (.mv (.t 25))])
     (.seq (.reg [o 26 (.mv (.t 0)), o 27 (.mv (.t 5)), o 28 (.mv (.t 1)), o 29 (.iaddr 4 (.t 26) (.t 27)), o 30 (.faddr 2 (.t 29)), st (.store 1 (.t 30) (.t 28))])
     (.seq (.reg [o 31 (.mv (.t 1)), o 32 (.bin .add (.t 31) (.c (.int .i64 1))), o 1 (.mv (.t 32))])
     (.reg [o 33 (.mv (.t 0)), o 34 (.mv (.t 5)), o 35 (.iaddr 4 (.t 33) (.t 34)), o 36 (.faddr 3 (.t 35)), o 37 (.load none (.t 36)), o 38 (.mv (.t 1)), o 39 (.call 37 [(.t 37), (.t 38)]), o 1 (.mv (.t 39))]))))))))
    (.reg [o 10 (.mv (.t 5)), o 11 (.bin .add (.t 10) (.c (.int .i64 1))), o 5 (.mv (.t 11))]))))))
  (.seq (.reg [o 40 (.mv (.t 1)), o 4 (.mv (.t 40))])
  (.ret))),
  [.tmp 4]⟩
/- loop.example/g03011/laws.markIntS -/
def F37 : Fun := ⟨19,
  .seq (.reg [o 4 (.mv (.c (.int .i64 0)))])
  (.seq (.seq (.reg [o 5 (.mv (.c (.int .i64 0)))])
  (.block 0 (.loop (.seq (.seq (.reg [o 6 (.mv (.t 5)), o 7 (.mv (.t 0)), o 8 (.lenL (.t 7)), o 9 (.bin .lss (.t 6) (.t 8))])
    (.cond (.t 9) (.skip) (.exit 0)))
    (.seq (.block 1 (.seq (.reg [o 12 (.mv (.t 0)), o 13 (.mv (.t 5)), o 14 (.mv (.t 1)), o 15 (.iaddr 1 (.t 12) (.t 13)), st (.store 1 (.t 15) (.t 14))])
     (.reg [o 16 (.mv (.t 1)), o 17 (.bin .add (.t 16) (.c (.int .i64 1))), o 1 (.mv (.t 17))])))
    (.reg [o 10 (.mv (.t 5)), o 11 (.bin .add (.t 10) (.c (.int .i64 1))), o 5 (.mv (.t 11))]))))))
  (.seq (.reg [o 18 (.mv (.t 1)), o 4 (.mv (.t 18))])
  (.ret))),
  [.tmp 4]⟩
/- loop.example/g03011/laws.heldIntS -/
def F38 : Fun := ⟨21,
  .seq (.reg [o 4 (.mv (.c (.int .i64 0)))])
  (.seq (.seq (.reg [o 5 (.mv (.c (.int .i64 0)))])
  (.block 0 (.loop (.seq (.seq (.reg [o 6 (.mv (.t 5)), o 7 (.mv (.t 0)), o 8 (.lenL (.t 7)), o 9 (.bin .lss (.t 6) (.t 8))])
    (.cond (.t 9) (.skip) (.exit 0)))
    (.seq (.block 1 (.seq (.seq (.reg [o 12 (.mv (.t 0)), o 13 (.mv (.t 5)), o 14 (.iaddr 1 (.t 12) (.t 13)), o 15 (.load none (.t 14)), o 16 (.mv (.t 1)), o 17 (.bin .neq (.t 15) (.t 16))])
     (.cond (.t 17) (.seq (.reg [o 4 (.mv (.c (.int .i64 (-1))))])
      (.ret)) (.skip)))
     (.reg [o 18 (.mv (.t 1)), o 19 (.bin .add (.t 18) (.c (.int .i64 1))), o 1 (.mv (.t 19))])))
    (.reg [o 10 (.mv (.t 5)), o 11 (.bin .add (.t 10) (.c (.int .i64 1))), o 5 (.mv (.t 11))]))))))
  (.seq (.reg [o 20 (.mv (.t 1)), o 4 (.mv (.t 20))])
  (.ret))),
  [.tmp 4]⟩
/- loop.example/g03011/spec.SaveSession -/
def F39 : Fun := ⟨54,
  .seq (.reg [o 10 (.mv (.c .nsl)), o 11 (.mv (.c (.bool false)))])
  (.seq (.reg [o 14 (.bslice 4 [(.str []), (.str []), (.int .i64 0), (.int .i64 0)] 0 []), o 15 (.mv (.t 0)), o 16 (.append 4 48 (.t 14) (.t 15)), o 12 (.mv (.t 16))])
  (.seq (.reg [o 17 (.mv (.t 0)), o 18 (.mv (.t 1)), o 19 (.call 79 [(.t 17), (.t 18)]), o 13 (.mv (.t 19))])
  (.seq (.seq (.reg [o 20 (.mv (.t 13)), o 21 (.bin .lss (.t 20) (.c (.int .i64 0))), o 22 (.mv (.t 21)), og 23 (.mv (.t 2)) 22 false, og 24 (.bin .lss (.t 23) (.c (.int .i64 1))) 22 false, o 25 (.pick (.t 22) (.c (.bool true)) (.t 24)), o 26 (.mv (.t 25)), og 27 (.mv (.t 0)) 26 false, og 28 (.mv (.t 13)) 26 false, og 29 (.iaddr 4 (.t 27) (.t 28)) 26 false, og 30 (.faddr 2 (.t 29)) 26 false, og 31 (.load none (.t 30)) 26 false, og 32 (.mv (.t 2)) 26 false, og 33 (.bin .neq (.t 31) (.t 32)) 26 false, o 34 (.pick (.t 26) (.c (.bool true)) (.t 33)), o 35 (.mv (.t 34)), og 36 (.mv (.t 3)) 35 false, og 37 (.lenS (.t 36)) 35 false, og 38 (.bin .gtr (.t 37) (.c (.int .i64 2000))) 35 false, o 39 (.pick (.t 35) (.c (.bool true)) (.t 38)), o 40 (.mv (.t 39)), og 41 (.mv (.t 4)) 40 false, og 42 (.call 80 [(.t 41), (.c (.int .i64 0)), (.c (.int .i64 1000000000000))]) 40 false, og 43 (.un .not (.t 42)) 40 false, o 44 (.pick (.t 40) (.c (.bool true)) (.t 43))])
  (.cond (.t 44) (.seq (.reg [o 45 (.mv (.t 12)), o 10 (.mv (.t 45)), o 11 (.mv (.c (.bool false)))])
   (.ret)) (.skip)))
  (.seq (.reg [o 46 (.mv (.t 12)), o 47 (.mv (.t 13)), o 48 (.mv (.t 1)), o 49 (.mv (.t 3)), o 50 (.mv (.t 4)), o 51 (.build [(.str []), (.str []), (.int .i64 0), (.int .i64 0)] [(0, 1, (.t 48)), (1, 1, (.t 49)), (3, 1, (.t 50))]), o 52 (.iaddr 4 (.t 46) (.t 47)), st (.store 4 (.t 52) (.t 51))])
  (.seq (.reg [o 53 (.mv (.t 12)), o 10 (.mv (.t 53)), o 11 (.mv (.c (.bool true)))])
  (.ret)))))),
  [.tmp 10, .tmp 11]⟩
/- loop.example/g03011/impl.SaveSession -/
def F40 : Fun := ⟨53,
  .seq (.reg [o 10 (.mv (.c .nsl)), o 11 (.mv (.c (.bool false)))])
  (.seq (.reg [o 14 (.mv (.t 0)), o 15 (.call 85 [(.t 14)]), o 12 (.mv (.t 15))])
  (.seq (.reg [o 16 (.mv (.t 0)), o 17 (.mv (.t 1)), o 18 (.call 58 [(.t 16), (.t 17)]), o 13 (.mv (.t 18))])
  (.seq (.seq (.reg [o 19 (.mv (.t 13)), o 20 (.bin .lss (.t 19) (.c (.int .i64 0))), o 21 (.mv (.t 20)), og 22 (.mv (.t 2)) 21 false, og 23 (.bin .lss (.t 22) (.c (.int .i64 1))) 21 false, o 24 (.pick (.t 21) (.c (.bool true)) (.t 23)), o 25 (.mv (.t 24)), og 26 (.mv (.t 0)) 25 false, og 27 (.mv (.t 13)) 25 false, og 28 (.iaddr 4 (.t 26) (.t 27)) 25 false, og 29 (.faddr 2 (.t 28)) 25 false, og 30 (.load none (.t 29)) 25 false, og 31 (.mv (.t 2)) 25 false, og 32 (.bin .neq (.t 30) (.t 31)) 25 false, o 33 (.pick (.t 25) (.c (.bool true)) (.t 32)), o 34 (.mv (.t 33)), og 35 (.mv (.t 3)) 34 false, og 36 (.lenS (.t 35)) 34 false, og 37 (.bin .gtr (.t 36) (.c (.int .i64 2000))) 34 false, o 38 (.pick (.t 34) (.c (.bool true)) (.t 37)), o 39 (.mv (.t 38)), og 40 (.mv (.t 4)) 39 false, og 41 (.call 83 [(.t 40), (.c (.int .i64 0)), (.c (.int .i64 1000000000000))]) 39 false, og 42 (.un .not (.t 41)) 39 false, o 43 (.pick (.t 39) (.c (.bool true)) (.t 42))])
  (.cond (.t 43) (.seq (.reg [o 44 (.mv (.t 12)), o 10 (.mv (.t 44)), o 11 (.mv (.c (.bool false)))])
   (.ret)) (.skip)))
  (.seq (.reg [o 45 (.mv (.t 12)), o 46 (.mv (.t 13)), o 47 (.mv (.t 1)), o 48 (.mv (.t 3)), o 49 (.mv (.t 4)), o 50 (.build [(.str []), (.str []), (.int .i64 0), (.int .i64 0)] [(0, 1, (.t 47)), (1, 1, (.t 48)), (3, 1, (.t 49))]), o 51 (.iaddr 4 (.t 45) (.t 46)), st (.store 4 (.t 51) (.t 50))])
  (.seq (.reg [o 52 (.mv (.t 12)), o 10 (.mv (.t 52)), o 11 (.mv (.c (.bool true)))])
  (.ret)))))),
  [.tmp 10, .tmp 11]⟩
/- loop.example/g03011/laws.big -/
def F41 : Fun := ⟨6,
  .seq (.reg [o 2 (.mv (.c (.bool false)))])
  (.seq (.reg [o 3 (.mv (.t 0)), o 4 (.lenL (.t 3)), o 5 (.bin .gtr (.t 4) (.c (.int .i64 1048576))), o 2 (.mv (.t 5))])
  (.ret)),
  [.tmp 2]⟩
/- loop.example/g03011/spec.DrawSweepSessions -/
def F42 : Fun := ⟨18,
  .seq (.reg [o 2 (.mv (.c .nsl)), o 3 (.mv (.c (.int .i64 0))), o 4 (.mv (.c (.int .i64 0)))])
  (.seq (.reg [o 7 (.mv (.t 0)), o 8 (.call 92 [(.t 7)]), o 5 (.mv (.t 8))])
  (.seq (.reg [o 9 (.mv (.t 5)), o 10 (.call 93 [(.t 9)]), o 6 (.mv (.t 10))])
  (.seq (.reg [o 11 (.mv (.t 6)), o 12 (.mv (.t 5)), o 13 (.bslice 1 [(.int .i64 0)] 5 [(0, (.c (.int .i64 0))), (1, (.c (.int .i64 10))), (2, (.c (.int .i64 30))), (3, (.c (.int .i64 50))), (4, (.c (.int .i64 (-1))))]), o 14 (.call 94 [(.t 12), (.t 13)]), o 15 (.mv (.t 5)), o 16 (.bslice 1 [(.int .i64 0)] 5 [(0, (.c (.int .i64 0))), (1, (.c (.int .i64 5))), (2, (.c (.int .i64 20))), (3, (.c (.int .i64 (-1)))), (4, (.c (.int .i64 1000000000001)))]), o 17 (.call 94 [(.t 15), (.t 16)]), o 2 (.mv (.t 11)), o 3 (.mv (.t 14)), o 4 (.mv (.t 17))])
  (.ret)))),
  [.tmp 2, .tmp 3, .tmp 4]⟩
/- loop.example/g03011/laws.szPairS -/
def F43 : Fun := ⟨27,
  .seq (.reg [o 4 (.mv (.c (.int .i64 0)))])
  (.seq (.reg [o 6 (.mv (.t 1)), o 7 (.mv (.t 0)), o 8 (.lenL (.t 7)), o 9 (.bin .sub (.t 6) (.t 8)), o 1 (.mv (.t 9))])
  (.seq (.seq (.reg [o 10 (.mv (.t 1)), o 11 (.bin .lss (.t 10) (.c (.int .i64 0)))])
  (.cond (.t 11) (.seq (.reg [o 4 (.mv (.c (.int .i64 (-1))))])
   (.ret)) (.skip)))
  (.seq (.seq (.reg [o 5 (.mv (.c (.int .i64 0)))])
  (.block 0 (.loop (.seq (.seq (.reg [o 12 (.mv (.t 5)), o 13 (.mv (.t 0)), o 14 (.lenL (.t 13)), o 15 (.bin .lss (.t 12) (.t 14))])
    (.cond (.t 15) (.skip) (.exit 0)))
    (.seq (.block 1 (.seq (.reg [o 18 (.mv (.t 0)), o 19 (.mv (.t 5)), o 20 (.iaddr 2 (.t 18) (.t 19)), o 21 (.load (some 2) (.t 20)), o 22 (.mv (.t 1)), o 23 (.call 95 [(.t 21), (.t 22)]), o 1 (.mv (.t 23))])
     (.seq (.reg [o 24 (.mv (.t 1)), o 25 (.bin .lss (.t 24) (.c (.int .i64 0)))])
     (.cond (.t 25) (.seq (.reg [o 4 (.mv (.c (.int .i64 (-1))))])
      (.ret)) (.skip)))))
    (.reg [o 16 (.mv (.t 5)), o 17 (.bin .add (.t 16) (.c (.int .i64 1))), o 5 (.mv (.t 17))]))))))
  (.seq (.reg [o 26 (.mv (.t 1)), o 4 (.mv (.t 26))])
  (.ret))))),
  [.tmp 4]⟩
/- loop.example/g03011/spec.FormatCookies -/
def F44 : Fun := ⟨5,
  .seq (.reg [o 2 (.mv (.c (.str [])))])
  (.seq (.reg [o 3 (.mv (.t 0)), o 4 (.call 96 [(.t 3), (.c (.str [59, 32]))]), o 2 (.mv (.t 4))])
  (.ret)),
  [.tmp 2]⟩
/- loop.example/g03011/laws.toPairS -/
def F45 : Fun := ⟨23,
  .seq (.reg [o 2 (.mv (.c .nsl))])
  (.seq (.reg [o 5 (.mv (.t 0)), o 6 (.lenL (.t 5)), o 7 (.mkslice 2 [(.str []), (.str [])] 32 (.t 6) (.t 6)), o 3 (.mv (.t 7))])
  (.seq (.seq (.reg [o 4 (.mv (.c (.int .i64 0)))])
  (.block 0 (.loop (.seq (.seq (.reg [o 8 (.mv (.t 4)), o 9 (.mv (.t 0)), o 10 (.lenL (.t 9)), o 11 (.bin .lss (.t 8) (.t 10))])
    (.cond (.t 11) (.skip) (.exit 0)))
    (.seq (.block 1 (.reg [o 14 (.mv (.t 3)), o 15 (.mv (.t 4)), o 16 (.mv (.t 0)), o 17 (.mv (.t 4)), o 18 (.iaddr 2 (.t 16) (.t 17)), o 19 (.load (some 2) (.t 18)), o 20 (.call 97 [(.t 19)]), o 21 (.iaddr 2 (.t 14) (.t 15)), st (.store 2 (.t 21) (.t 20))]))
    (.reg [o 12 (.mv (.t 4)), o 13 (.bin .add (.t 12) (.c (.int .i64 1))), o 4 (.mv (.t 13))]))))))
  (.seq (.reg [o 22 (.mv (.t 3)), o 2 (.mv (.t 22))])
  (.ret)))),
  [.tmp 2]⟩
/- loop.example/g03011/impl.FormatCookies -/
def F46 : Fun := ⟨5,
  .seq (.reg [o 2 (.mv (.c (.str [])))])
  (.seq (.reg [o 3 (.mv (.t 0)), o 4 (.call 98 [(.t 3), (.c (.str [59, 32]))]), o 2 (.mv (.t 4))])
  (.ret)),
  [.tmp 2]⟩
/- loop.example/g03011/laws.eqPairS -/
def F47 : Fun := ⟨27,
  .seq (.reg [o 4 (.mv (.c (.bool false)))])
  (.seq (.seq (.reg [o 6 (.mv (.t 0)), o 7 (.lenL (.t 6)), o 8 (.mv (.t 1)), o 9 (.lenL (.t 8)), o 10 (.bin .neq (.t 7) (.t 9))])
  (.cond (.t 10) (.seq (.reg [o 4 (.mv (.c (.bool false)))])
   (.ret)) (.skip)))
  (.seq (.seq (.reg [o 5 (.mv (.c (.int .i64 0)))])
  (.block 0 (.loop (.seq (.seq (.reg [o 11 (.mv (.t 5)), o 12 (.mv (.t 0)), o 13 (.lenL (.t 12)), o 14 (.bin .lss (.t 11) (.t 13))])
    (.cond (.t 14) (.skip) (.exit 0)))
    (.seq (.block 1 (.seq (.reg [o 17 (.mv (.t 0)), o 18 (.mv (.t 5)), o 19 (.iaddr 2 (.t 17) (.t 18)), o 20 (.load (some 2) (.t 19)), o 21 (.mv (.t 1)), o 22 (.mv (.t 5)), o 23 (.iaddr 2 (.t 21) (.t 22)), o 24 (.load (some 2) (.t 23)), o 25 (.callF 99 [(.t 20), (.t 24)]), o 26 (.un .not (.t 25))])
     (.cond (.t 26) (.seq (.reg [o 4 (.mv (.c (.bool false)))])
      (.ret)) (.skip))))
    (.reg [o 15 (.mv (.t 5)), o 16 (.bin .add (.t 15) (.c (.int .i64 1))), o 5 (.mv (.t 16))]))))))
  (.seq (.reg [o 4 (.mv (.c (.bool true)))])
  (.ret)))),
  [.tmp 4]⟩
/- loop.example/g03011/spec.FormatQuery -/
def F48 : Fun := ⟨5,
  .seq (.reg [o 2 (.mv (.c (.str [])))])
  (.seq (.reg [o 3 (.mv (.t 0)), o 4 (.call 96 [(.t 3), (.c (.str [38]))]), o 2 (.mv (.t 4))])
  (.ret)),
  [.tmp 2]⟩
/- loop.example/g03011/impl.FormatQuery -/
def F49 : Fun := ⟨5,
  .seq (.reg [o 2 (.mv (.c (.str [])))])
  (.seq (.reg [o 3 (.mv (.t 0)), o 4 (.call 98 [(.t 3), (.c (.str [38]))]), o 2 (.mv (.t 4))])
  (.ret)),
  [.tmp 2]⟩
/- loop.example/g03011/spec.WriteLine -/
def F50 : Fun := ⟨67,
  .seq (.reg [o 8 (.mv (.c .nsl)), o 9 (.mv (.c (.bool false)))])
  (.seq (.reg [o 11 (.mv (.t 0)), o 12 (.call 100 [(.t 11)]), o 10 (.mv (.t 12))])
  (.seq (.seq (.reg [o 13 (.mv (.t 0)), o 14 (.call 67 [(.t 13)]), o 15 (.un .not (.t 14)), o 16 (.mv (.t 15)), og 17 (.mv (.t 1)) 16 false, og 18 (.mv (.t 0)) 16 false, og 19 (.lenL (.t 18)) 16 false, og 20 (.bin .sub (.t 19) (.c (.int .i64 1))) 16 false, og 21 (.call 80 [(.t 17), (.c (.int .i64 0)), (.t 20)]) 16 false, og 22 (.un .not (.t 21)) 16 false, o 23 (.pick (.t 16) (.c (.bool true)) (.t 22)), o 24 (.mv (.t 23)), og 25 (.mv (.t 0)) 24 false, og 26 (.mv (.t 1)) 24 false, og 27 (.iaddr 4 (.t 25) (.t 26)) 24 false, og 28 (.faddr 0 (.t 27)) 24 false, og 29 (.load none (.t 28)) 24 false, og 30 (.bin .rem (.t 29) (.c (.int .i64 2))) 24 false, og 31 (.bin .eql (.t 30) (.c (.int .i64 1))) 24 false, o 32 (.pick (.t 24) (.c (.bool true)) (.t 31)), o 33 (.mv (.t 32)), og 34 (.mv (.t 0)) 33 false, og 35 (.mv (.t 1)) 33 false, og 36 (.iaddr 4 (.t 34) (.t 35)) 33 false, og 37 (.faddr 0 (.t 36)) 33 false, og 38 (.load none (.t 37)) 33 false, og 39 (.bin .gtr (.t 38) (.c (.int .i64 999999999998))) 33 false, o 40 (.pick (.t 33) (.c (.bool true)) (.t 39)), o 41 (.mv (.t 40)), og 42 (.mv (.t 2)) 41 false, og 43 (.call 80 [(.t 42), (.c (.int .i64 1)), (.c (.int .i64 1000000000000))]) 41 false, og 44 (.un .not (.t 43)) 41 false, o 45 (.pick (.t 41) (.c (.bool true)) (.t 44)), o 46 (.mv (.t 45)), og 47 (.mv (.t 3)) 46 false, og 48 (.lenL (.t 47)) 46 false, og 49 (.bin .gtr (.t 48) (.c (.int .i64 4100))) 46 false, o 50 (.pick (.t 46) (.c (.bool true)) (.t 49))])
  (.cond (.t 50) (.seq (.reg [o 51 (.mv (.t 10)), o 8 (.mv (.t 51)), o 9 (.mv (.c (.bool false)))])
   (.ret)) (.skip)))
  (.seq (.reg [o 52 (.mv (.t 10)), o 53 (.mv (.t 1)), o 54 (.mv (.t 0)), o 55 (.mv (.t 1)), o 56 (.iaddr 4 (.t 54) (.t 55)), o 57 (.faddr 0 (.t 56)), o 58 (.loadC none (.t 57)), o 59 (.bin .add (.t 58) (.c (.int .i64 2))), o 60 (.mv (.t 2)), o 62 (.mv (.t 3)), o 61 (.bslice 1 [(.int .i64 0)] 0 []), o 63 (.append 1 8 (.t 61) (.t 62)), o 64 (.build [(.int .i64 0), (.int .i64 0), (.int .i64 0), .nsl] [(0, 1, (.t 59)), (2, 1, (.t 60)), (3, 1, (.t 63))]), o 65 (.iaddr 4 (.t 52) (.t 53)), st (.store 4 (.t 65) (.t 64))])
  (.seq (.reg [o 66 (.mv (.t 10)), o 8 (.mv (.t 66)), o 9 (.mv (.c (.bool true)))])
  (.ret))))),
  [.tmp 8, .tmp 9]⟩
/- loop.example/g03011/laws.toIntS -/
def F51 : Fun := ⟨22,
  .seq (.reg [o 2 (.mv (.c .nsl))])
  (.seq (.reg [o 5 (.mv (.t 0)), o 6 (.lenL (.t 5)), o 7 (.mkslice 1 [(.int .i64 0)] 8 (.t 6) (.t 6)), o 3 (.mv (.t 7))])
  (.seq (.seq (.reg [o 4 (.mv (.c (.int .i64 0)))])
  (.block 0 (.loop (.seq (.seq (.reg [o 8 (.mv (.t 4)), o 9 (.mv (.t 0)), o 10 (.lenL (.t 9)), o 11 (.bin .lss (.t 8) (.t 10))])
    (.cond (.t 11) (.skip) (.exit 0)))
    (.seq (.block 1 (.reg [o 14 (.mv (.t 3)), o 15 (.mv (.t 4)), o 16 (.mv (.t 0)), o 17 (.mv (.t 4)), o 18 (.iaddr 1 (.t 16) (.t 17)), o 19 (.load none (.t 18)), o 20 (.iaddr 1 (.t 14) (.t 15)), st (.store 1 (.t 20) (.t 19))]))
    (.reg [o 12 (.mv (.t 4)), o 13 (.bin .add (.t 12) (.c (.int .i64 1))), o 4 (.mv (.t 13))]))))))
  (.seq (.reg [o 21 (.mv (.t 3)), o 2 (.mv (.t 21))])
  (.ret)))),
  [.tmp 2]⟩
/- loop.example/g03011/impl.WriteLine -/
def F52 : Fun := ⟨74,
  .seq (.reg [o 8 (.mv (.c .nsl)), o 9 (.mv (.c (.bool false)))])
  (.seq (.reg [o 11 (.mv (.t 0)), o 12 (.call 101 [(.t 11)]), o 10 (.mv (.t 12))])
  (.seq (.seq (.reg [o 13 (.mv (.t 0)), o 14 (.call 89 [(.t 13)]), o 15 (.un .not (.t 14)), o 16 (.mv (.t 15)), og 17 (.mv (.t 1)) 16 false, og 18 (.mv (.t 0)) 16 false, og 19 (.lenL (.t 18)) 16 false, og 20 (.bin .sub (.t 19) (.c (.int .i64 1))) 16 false, og 21 (.call 83 [(.t 17), (.c (.int .i64 0)), (.t 20)]) 16 false, og 22 (.un .not (.t 21)) 16 false, o 23 (.pick (.t 16) (.c (.bool true)) (.t 22)), o 24 (.mv (.t 23)), og 25 (.mv (.t 0)) 24 false, og 26 (.mv (.t 1)) 24 false, og 27 (.iaddr 4 (.t 25) (.t 26)) 24 false, og 28 (.faddr 0 (.t 27)) 24 false, og 29 (.load none (.t 28)) 24 false, og 30 (.bin .rem (.t 29) (.c (.int .i64 2))) 24 false, og 31 (.bin .eql (.t 30) (.c (.int .i64 1))) 24 false, o 32 (.pick (.t 24) (.c (.bool true)) (.t 31)), o 33 (.mv (.t 32)), og 34 (.mv (.t 0)) 33 false, og 35 (.mv (.t 1)) 33 false, og 36 (.iaddr 4 (.t 34) (.t 35)) 33 false, og 37 (.faddr 0 (.t 36)) 33 false, og 38 (.load none (.t 37)) 33 false, og 39 (.bin .gtr (.t 38) (.c (.int .i64 999999999998))) 33 false, o 40 (.pick (.t 33) (.c (.bool true)) (.t 39)), o 41 (.mv (.t 40)), og 42 (.mv (.t 2)) 41 false, og 43 (.call 83 [(.t 42), (.c (.int .i64 1)), (.c (.int .i64 1000000000000))]) 41 false, og 44 (.un .not (.t 43)) 41 false, o 45 (.pick (.t 41) (.c (.bool true)) (.t 44)), o 46 (.mv (.t 45)), og 47 (.mv (.t 3)) 46 false, og 48 (.lenL (.t 47)) 46 false, og 49 (.bin .gtr (.t 48) (.c (.int .i64 4100))) 46 false, o 50 (.pick (.t 46) (.c (.bool true)) (.t 49))])
  (.cond (.t 50) (.seq (.reg [o 51 (.mv (.t 10)), o 8 (.mv (.t 51)), o 9 (.mv (.c (.bool false)))])
   (.ret)) (.skip)))
  (.seq (.reg [o 52 (.mv (.t 10)), o 53 (.mv (.t 1)), o 54 (.mv (.t 10)), o 55 (.mv (.t 1)), o 56 (.iaddr 4 (.t 54) (.t 55)), o 57 (.faddr 0 (.t 56)), o 58 (.load none (.t 57)), o 59 (.bin .add (.t 58) (.c (.int .i64 2))), o 60 (.iaddr 4 (.t 52) (.t 53)), o 61 (.faddr 0 (.t 60)), st (.store 1 (.t 61) (.t 59))])
  (.seq (.reg [o 62 (.mv (.t 10)), o 63 (.mv (.t 1)), o 64 (.mv (.t 2)), o 65 (.iaddr 4 (.t 62) (.t 63)), o 66 (.faddr 2 (.t 65)), st (.store 1 (.t 66) (.t 64))])
  (.seq (.reg [o 67 (.mv (.t 10)), o 68 (.mv (.t 1)), o 69 (.mv (.t 3)), o 70 (.call 90 [(.t 69)]), o 71 (.iaddr 4 (.t 67) (.t 68)), o 72 (.faddr 3 (.t 71)), st (.store 1 (.t 72) (.t 70))])
  (.seq (.reg [o 73 (.mv (.t 10)), o 8 (.mv (.t 73)), o 9 (.mv (.c (.bool true)))])
  (.ret))))))),
  [.tmp 8, .tmp 9]⟩
/- loop.example/g03011/laws.heldLineS -/
def F53 : Fun := ⟨49,
  .seq (.reg [o 4 (.mv (.c (.int .i64 0)))])
  (.seq (.seq (.reg [o 5 (.mv (.c (.int .i64 0)))])
  (.block 0 (.loop (.seq (.seq (.reg [o 6 (.mv (.t 5)), o 7 (.mv (.t 0)), o 8 (.lenL (.t 7)), o 9 (.bin .lss (.t 6) (.t 8))])
    (.cond (.t 9) (.skip) (.exit 0)))
    (.seq (.block 1 (.seq (.seq (.reg [o 12 (.mv (.t 0)), o 13 (.mv (.t 5)), o 14 (.iaddr 4 (.t 12) (.t 13)), o 15 (.faddr 0 (.t 14)), o 16 (.load none (.t 15)), o 17 (.mv (.t 1)), o 18 (.bin .neq (.t 16) (.t 17))])
     (.cond (.t 18) (.seq (.reg [o 4 (.mv (.c (.int .i64 (-1))))])
      (.ret)) (.skip)))
     (.seq (.reg [o 19 (.mv (.t 1)), o 20 (.bin .add (.t 19) (.c (.int .i64 1))), o 1 (.mv (.t 20))])
     (.seq (.seq (.reg [o 21 (.mv (.t 0)), o 22 (.mv (.t 5)), o 23 (.iaddr 4 (.t 21) (.t 22)), o 24 (.faddr 1 (.t 23)), o 25 (.load none (.t 24)), o 26 (.mv (.t 1)), o 27 (.bin .neq (.t 25) (.t 26))])
     (.cond (.t 27) (.seq (.reg [o 4 (.mv (.c (.int .i64 (-1))))])
      (.ret)) (.skip)))
     (.seq (.reg [o 28 (.mv (.t 1)), o 29 (.bin .add (.t 28) (.c (.int .i64 1))), o 1 (.mv (.t 29))])
     (.seq (.seq (.reg [o 30 (.mv (.t 0)), o 31 (.mv (.t 5)), o 32 (.iaddr 4 (.t 30) (.t 31)), o 33 (.faddr 2 (.t 32)), o 34 (.load none (.t 33)), o 35 (.mv (.t 1)), o 36 (.bin .neq (.t 34) (.t 35))])
     (.cond (.t 36) (.seq (.reg [o 4 (.mv (.c (.int .i64 (-1))))])
      (.ret)) (.skip)))
     (.seq (.reg [o 37 (.mv (.t 1)), o 38 (.bin .add (.t 37) (.c (.int .i64 1))), o 1 (.mv (.t 38))])
     (.seq (.reg [o 39 (.mv (.t 0)), o 40 (.mv (.t 5)), o 41 (.iaddr 4 (.t 39) (.t 40)), o 42 (.faddr 3 (.t 41)), o 43 (.load none (.t 42)), o 44 (.mv (.t 1)), o 45 (.call 38 [(.t 43), (.t 44)]), o 1 (.mv (.t 45))])
     (.seq (.reg [o 46 (.mv (.t 1)), o 47 (.bin .lss (.t 46) (.c (.int .i64 0)))])
     (.cond (.t 47) (.seq (.reg [o 4 (.mv (.c (.int .i64 (-1))))])
      (.ret)) (.skip)))))))))))
    (.reg [o 10 (.mv (.t 5)), o 11 (.bin .add (.t 10) (.c (.int .i64 1))), o 5 (.mv (.t 11))]))))))
  (.seq (.reg [o 48 (.mv (.t 1)), o 4 (.mv (.t 48))])
  (.ret))),
  [.tmp 4]⟩
/- loop.example/g03011/spec.Recover -/
def F54 : Fun := ⟨18,
  .seq (.reg [o 4 (.mv (.c .nsl))])
  (.seq (.reg [o 6 (.mv (.t 0)), o 7 (.call 100 [(.t 6)]), o 5 (.mv (.t 7))])
  (.seq (.seq (.reg [o 8 (.mv (.t 0)), o 9 (.call 67 [(.t 8)]), o 10 (.mv (.t 9)), og 11 (.mv (.t 1)) 10 true, og 12 (.bin .gtr (.t 11) (.c (.int .i64 0))) 10 true, o 13 (.pick (.t 10) (.t 12) (.c (.bool false)))])
  (.cond (.t 13) (.reg [o 14 (.mv (.t 5)), o 15 (.mv (.t 1)), o 16 (.call 102 [(.t 14), (.t 15)])]) (.skip)))
  (.seq (.reg [o 17 (.mv (.t 5)), o 4 (.mv (.t 17))])
  (.ret)))),
  [.tmp 4]⟩
/- loop.example/g03011/impl.Recover -/
def F55 : Fun := ⟨18,
  .seq (.reg [o 4 (.mv (.c .nsl))])
  (.seq (.reg [o 6 (.mv (.t 0)), o 7 (.call 101 [(.t 6)]), o 5 (.mv (.t 7))])
  (.seq (.seq (.reg [o 8 (.mv (.t 0)), o 9 (.call 89 [(.t 8)]), o 10 (.mv (.t 9)), og 11 (.mv (.t 1)) 10 true, og 12 (.bin .geq (.t 11) (.c (.int .i64 1))) 10 true, o 13 (.pick (.t 10) (.t 12) (.c (.bool false)))])
  (.cond (.t 13) (.reg [o 14 (.mv (.t 5)), o 15 (.mv (.t 1)), o 16 (.call 103 [(.t 14), (.t 15)])]) (.skip)))
  (.seq (.reg [o 17 (.mv (.t 5)), o 4 (.mv (.t 17))])
  (.ret)))),
  [.tmp 4]⟩
/- loop.example/g03011/spec.DrawOpenSession -/
def F56 : Fun := ⟨24,
  .seq (.reg [o 2 (.mv (.c .nsl)), o 3 (.mv (.c (.str []))), o 4 (.mv (.c (.int .i64 0))), o 5 (.mv (.c (.int .i64 0)))])
  (.seq (.reg [o 10 (.mv (.t 0)), o 11 (.call 92 [(.t 10)]), o 6 (.mv (.t 11))])
  (.seq (.reg [o 12 (.mv (.t 6)), o 13 (.call 93 [(.t 12)]), o 7 (.mv (.t 13))])
  (.seq (.reg [o 14 (.mv (.t 6)), o 15 (.call 104 [(.t 14)]), o 8 (.mv (.t 15))])
  (.seq (.reg [o 16 (.mv (.t 6)), o 17 (.call 105 [(.t 16), (.c (.int .i64 4))]), o 9 (.mv (.t 17))])
  (.seq (.reg [o 18 (.mv (.t 7)), o 19 (.mv (.t 8)), o 20 (.mv (.t 9)), o 21 (.mv (.t 6)), o 22 (.bslice 1 [(.int .i64 0)] 4 [(0, (.c (.int .i64 0))), (1, (.c (.int .i64 5))), (2, (.c (.int .i64 40))), (3, (.c (.int .i64 (-1))))]), o 23 (.call 94 [(.t 21), (.t 22)]), o 2 (.mv (.t 18)), o 3 (.mv (.t 19)), o 4 (.mv (.t 20)), o 5 (.mv (.t 23))])
  (.ret)))))),
  [.tmp 2, .tmp 3, .tmp 4, .tmp 5]⟩
/- loop.example/g03011/impl.OpenSession -/
def F57 : Fun := ⟨75,
  .seq (.reg [o 8 (.mv (.c .nsl)), o 9 (.mv (.c (.str []))), o 10 (.mv (.c (.int .i64 0)))])
  (.seq (.reg [o 13 (.mv (.t 0)), o 14 (.call 85 [(.t 13)]), o 11 (.mv (.t 14))])
  (.seq (.seq (.reg [o 15 (.mv (.t 1)), o 16 (.call 82 [(.t 15)]), o 17 (.un .not (.t 16)), o 18 (.mv (.t 17)), og 19 (.mv (.t 0)) 18 false, og 20 (.call 22 [(.t 19)]) 18 false, og 21 (.un .not (.t 20)) 18 false, o 22 (.pick (.t 18) (.c (.bool true)) (.t 21)), o 23 (.mv (.t 22)), og 24 (.mv (.t 2)) 23 false, og 25 (.call 83 [(.t 24), (.c (.int .i64 1)), (.c (.int .i64 1000000000000))]) 23 false, og 26 (.un .not (.t 25)) 23 false, o 27 (.pick (.t 23) (.c (.bool true)) (.t 26)), o 28 (.mv (.t 27)), og 29 (.mv (.t 3)) 28 false, og 30 (.call 83 [(.t 29), (.c (.int .i64 0)), (.c (.int .i64 1000000000000))]) 28 false, og 31 (.un .not (.t 30)) 28 false, o 32 (.pick (.t 28) (.c (.bool true)) (.t 31))])
  (.cond (.t 32) (.seq (.reg [o 33 (.mv (.t 11)), o 8 (.mv (.t 33)), o 9 (.mv (.c (.str []))), o 10 (.mv (.c (.int .i64 1)))])
   (.ret)) (.skip)))
  (.seq (.reg [o 34 (.mv (.t 0)), o 35 (.mv (.t 1)), o 36 (.call 58 [(.t 34), (.t 35)]), o 12 (.mv (.t 36))])
  (.seq (.block 0 (.seq (.reg [o 38 (.mv (.t 12)), o 39 (.bin .geq (.t 38) (.c (.int .i64 0))), o 40 (.mv (.t 39)), og 41 (.mv (.t 0)) 40 true, og 42 (.mv (.t 12)) 40 true, og 43 (.iaddr 4 (.t 41) (.t 42)) 40 true, og 44 (.faddr 2 (.t 43)) 40 true, og 45 (.load none (.t 44)) 40 true, og 46 (.bin .neq (.t 45) (.c (.int .i64 0))) 40 true, o 47 (.pick (.t 40) (.t 46) (.c (.bool false))), o 37 (.mv (.t 47))])
   (.cond (.t 37) (.seq (.reg [o 48 (.mv (.t 11)), o 8 (.mv (.t 48)), o 9 (.mv (.c (.str []))), o 10 (.mv (.c (.int .i64 2)))])
    (.ret)) (.seq (.reg [o 50 (.mv (.t 12)), o 51 (.bin .geq (.t 50) (.c (.int .i64 0))), o 49 (.mv (.t 51))])
    (.cond (.t 49) (.seq (.reg [o 52 (.mv (.t 11)), o 53 (.mv (.t 12)), o 54 (.mv (.t 2)), o 55 (.iaddr 4 (.t 52) (.t 53)), o 56 (.faddr 2 (.t 55)), st (.store 1 (.t 56) (.t 54))])
     (.seq (.reg [o 57 (.mv (.t 11)), o 58 (.mv (.t 11)), o 59 (.mv (.t 12)), o 60 (.iaddr 4 (.t 58) (.t 59)), o 61 (.faddr 1 (.t 60)), o 62 (.load none (.t 61)), o 8 (.mv (.t 57)), o 9 (.mv (.t 62)), o 10 (.mv (.c (.int .i64 0)))])
     (.ret))) (.seq (.reg [o 64 (.mv (.t 0)), o 65 (.lenL (.t 64)), o 66 (.bin .geq (.t 65) (.c (.int .i64 8))), o 63 (.mv (.t 66))])
     (.cond (.t 63) (.seq (.reg [o 67 (.mv (.t 11)), o 8 (.mv (.t 67)), o 9 (.mv (.c (.str []))), o 10 (.mv (.c (.int .i64 3)))])
      (.ret)) (.skip))))))))
  (.seq (.reg [o 68 (.mv (.t 11)), o 69 (.mv (.t 1)), o 70 (.mv (.t 2)), o 71 (.mv (.t 3)), o 72 (.build [(.str []), (.str []), (.int .i64 0), (.int .i64 0)] [(0, 1, (.t 69)), (2, 1, (.t 70)), (3, 1, (.t 71))]), o 73 (.bslice 4 [(.str []), (.str []), (.int .i64 0), (.int .i64 0)] 1 [(0, (.t 72))]), o 74 (.append 4 48 (.t 68) (.t 73)), o 8 (.mv (.t 74)), o 9 (.mv (.c (.str []))), o 10 (.mv (.c (.int .i64 0)))])
  (.ret)))))),
  [.tmp 8, .tmp 9, .tmp 10]⟩
/- loop.example/g03011/impl.FindSession -/
def F58 : Fun := ⟨8,
  .seq (.reg [o 3 (.box 1 (.t 1)), o 4 (.mv (.c (.int .i64 0)))])
  (.seq (.reg [o 5 (.mv (.t 0)), o 6 (.mkfn 107 [(.t 3)]), o 7 (.call 106 [(.t 5), (.t 6)]), o 4 (.mv (.t 7))])
  (.ret)),
  [.tmp 4]⟩
/- loop.example/g03011/laws.szResponse -/
def F59 : Fun := ⟨19,
  .seq (.reg [o 2 (.box 3 (.t 0)), o 4 (.mv (.c (.int .i64 0)))])
  (.seq (.reg [o 5 (.faddr 1 (.t 2)), o 6 (.load none (.t 5)), o 7 (.mv (.t 1)), o 8 (.call 108 [(.t 6), (.t 7)]), o 1 (.mv (.t 8))])
  (.seq (.seq (.reg [o 9 (.mv (.t 1)), o 10 (.bin .lss (.t 9) (.c (.int .i64 0)))])
  (.cond (.t 10) (.seq (.reg [o 4 (.mv (.c (.int .i64 (-1))))])
   (.ret)) (.skip)))
  (.seq (.reg [o 11 (.mv (.t 1)), o 12 (.faddr 2 (.t 2)), o 13 (.load none (.t 12)), o 14 (.lenS (.t 13)), o 15 (.bin .sub (.t 11) (.t 14)), o 1 (.mv (.t 15))])
  (.seq (.seq (.reg [o 16 (.mv (.t 1)), o 17 (.bin .lss (.t 16) (.c (.int .i64 0)))])
  (.cond (.t 17) (.seq (.reg [o 4 (.mv (.c (.int .i64 (-1))))])
   (.ret)) (.skip)))
  (.seq (.reg [o 18 (.mv (.t 1)), o 4 (.mv (.t 18))])
  (.ret)))))),
  [.tmp 4]⟩
/- loop.example/g03011/spec.IsResponse -/
def F60 : Fun := ⟨15,
  .seq (.reg [o 1 (.box 3 (.t 0)), o 2 (.mv (.c (.bool false)))])
  (.seq (.reg [o 3 (.faddr 0 (.t 1)), o 4 (.load none (.t 3)), o 5 (.call 109 [(.t 4)]), o 6 (.bin .neq (.t 5) (.c (.str []))), o 7 (.mv (.t 6)), og 8 (.faddr 2 (.t 1)) 7 true, og 9 (.load none (.t 8)) 7 true, og 10 (.faddr 1 (.t 1)) 7 true, og 11 (.load none (.t 10)) 7 true, og 12 (.build [(.str []), .nsl, .nsl] [(0, 1, (.t 9)), (1, 1, (.t 11))]) 7 true, og 13 (.call 110 [(.t 12)]) 7 true, o 14 (.pick (.t 7) (.t 13) (.c (.bool false))), o 2 (.mv (.t 14))])
  (.ret)),
  [.tmp 2]⟩
/- loop.example/g03011/laws.toResponse -/
def F61 : Fun := ⟨15,
  .seq (.reg [o 1 (.box 3 (.t 0)), o 2 (.new 3 [(.int .i64 0), .nsl, (.str [])])])
  (.seq (.reg [o 3 (.new 3 [(.int .i64 0), .nsl, (.str [])])])
  (.seq (.reg [o 4 (.faddr 0 (.t 1)), o 5 (.load none (.t 4)), o 6 (.faddr 0 (.t 3)), st (.store 1 (.t 6) (.t 5))])
  (.seq (.reg [o 7 (.faddr 1 (.t 1)), o 8 (.load none (.t 7)), o 9 (.call 111 [(.t 8)]), o 10 (.faddr 1 (.t 3)), st (.store 1 (.t 10) (.t 9))])
  (.seq (.reg [o 11 (.faddr 2 (.t 1)), o 12 (.load none (.t 11)), o 13 (.faddr 2 (.t 3)), st (.store 1 (.t 13) (.t 12))])
  (.seq (.reg [o 14 (.load (some 3) (.t 3)), st (.store 3 (.t 2) (.t 14))])
  (.ret)))))),
  [.cell 2 (some 3)]⟩
/- loop.example/g03011/impl.IsResponse -/
def F62 : Fun := ⟨15,
  .seq (.reg [o 1 (.box 3 (.t 0)), o 2 (.mv (.c (.bool false)))])
  (.seq (.reg [o 3 (.faddr 0 (.t 1)), o 4 (.load none (.t 3)), o 5 (.call 112 [(.t 4)]), o 6 (.bin .neq (.t 5) (.c (.str []))), o 7 (.mv (.t 6)), og 8 (.faddr 2 (.t 1)) 7 true, og 9 (.load none (.t 8)) 7 true, og 10 (.faddr 1 (.t 1)) 7 true, og 11 (.load none (.t 10)) 7 true, og 12 (.build [(.str []), .nsl, .nsl] [(0, 1, (.t 9)), (1, 1, (.t 11))]) 7 true, og 13 (.call 113 [(.t 12)]) 7 true, o 14 (.pick (.t 7) (.t 13) (.c (.bool false))), o 2 (.mv (.t 14))])
  (.ret)),
  [.tmp 2]⟩
/- loop.example/g03011/laws.eqResponse -/
def F63 : Fun := ⟨21,
  .seq (.reg [o 2 (.box 3 (.t 0)), o 3 (.box 3 (.t 1)), o 4 (.mv (.c (.bool false)))])
  (.seq (.seq (.reg [o 5 (.faddr 0 (.t 2)), o 6 (.load none (.t 5)), o 7 (.faddr 0 (.t 3)), o 8 (.load none (.t 7)), o 9 (.bin .neq (.t 6) (.t 8))])
  (.cond (.t 9) (.seq (.reg [o 4 (.mv (.c (.bool false)))])
   (.ret)) (.skip)))
  (.seq (.seq (.reg [o 10 (.faddr 1 (.t 2)), o 11 (.load none (.t 10)), o 12 (.faddr 1 (.t 3)), o 13 (.load none (.t 12)), o 14 (.call 114 [(.t 11), (.t 13)]), o 15 (.un .not (.t 14))])
  (.cond (.t 15) (.seq (.reg [o 4 (.mv (.c (.bool false)))])
   (.ret)) (.skip)))
  (.seq (.seq (.reg [o 16 (.faddr 2 (.t 2)), o 17 (.load none (.t 16)), o 18 (.faddr 2 (.t 3)), o 19 (.load none (.t 18)), o 20 (.bin .neq (.t 17) (.t 19))])
  (.cond (.t 20) (.seq (.reg [o 4 (.mv (.c (.bool false)))])
   (.ret)) (.skip)))
  (.seq (.reg [o 4 (.mv (.c (.bool true)))])
  (.ret))))),
  [.tmp 4]⟩
/- loop.example/g03011/spec.OpenSession -/
def F64 : Fun := ⟨77,
  .seq (.reg [o 8 (.mv (.c .nsl)), o 9 (.mv (.c (.str []))), o 10 (.mv (.c (.int .i64 0)))])
  (.seq (.reg [o 13 (.bslice 4 [(.str []), (.str []), (.int .i64 0), (.int .i64 0)] 0 []), o 14 (.mv (.t 0)), o 15 (.append 4 48 (.t 13) (.t 14)), o 11 (.mv (.t 15))])
  (.seq (.reg [o 16 (.mv (.t 0)), o 17 (.mv (.t 1)), o 18 (.call 79 [(.t 16), (.t 17)]), o 12 (.mv (.t 18))])
  (.seq (.block 0 (.seq (.reg [o 20 (.mv (.t 1)), o 21 (.call 78 [(.t 20)]), o 22 (.un .not (.t 21)), o 23 (.mv (.t 22)), og 24 (.mv (.t 0)) 23 false, og 25 (.call 20 [(.t 24)]) 23 false, og 26 (.un .not (.t 25)) 23 false, o 27 (.pick (.t 23) (.c (.bool true)) (.t 26)), o 28 (.mv (.t 27)), og 29 (.mv (.t 2)) 28 false, og 30 (.call 80 [(.t 29), (.c (.int .i64 1)), (.c (.int .i64 1000000000000))]) 28 false, og 31 (.un .not (.t 30)) 28 false, o 32 (.pick (.t 28) (.c (.bool true)) (.t 31)), o 33 (.mv (.t 32)), og 34 (.mv (.t 3)) 33 false, og 35 (.call 80 [(.t 34), (.c (.int .i64 0)), (.c (.int .i64 1000000000000))]) 33 false, og 36 (.un .not (.t 35)) 33 false, o 37 (.pick (.t 33) (.c (.bool true)) (.t 36)), o 19 (.mv (.t 37))])
   (.cond (.t 19) (.seq (.reg [o 38 (.mv (.t 11)), o 8 (.mv (.t 38)), o 9 (.mv (.c (.str []))), o 10 (.mv (.c (.int .i64 1)))])
    (.ret)) (.seq (.reg [o 40 (.mv (.t 12)), o 41 (.bin .geq (.t 40) (.c (.int .i64 0))), o 42 (.mv (.t 41)), og 43 (.mv (.t 0)) 42 true, og 44 (.mv (.t 12)) 42 true, og 45 (.iaddr 4 (.t 43) (.t 44)) 42 true, og 46 (.faddr 2 (.t 45)) 42 true, og 47 (.load none (.t 46)) 42 true, og 48 (.bin .neq (.t 47) (.c (.int .i64 0))) 42 true, o 49 (.pick (.t 42) (.t 48) (.c (.bool false))), o 39 (.mv (.t 49))])
    (.cond (.t 39) (.seq (.reg [o 50 (.mv (.t 11)), o 8 (.mv (.t 50)), o 9 (.mv (.c (.str []))), o 10 (.mv (.c (.int .i64 2)))])
     (.ret)) (.seq (.reg [o 52 (.mv (.t 12)), o 53 (.bin .geq (.t 52) (.c (.int .i64 0))), o 51 (.mv (.t 53))])
     (.cond (.t 51) (.seq (.reg [o 54 (.mv (.t 11)), o 55 (.mv (.t 12)), o 56 (.mv (.t 2)), o 57 (.iaddr 4 (.t 54) (.t 55)), o 58 (.faddr 2 (.t 57)), st (.store 1 (.t 58) (.t 56))])
      (.seq (.reg [o 59 (.mv (.t 11)), o 60 (.mv (.t 0)), o 61 (.mv (.t 12)), o 62 (.iaddr 4 (.t 60) (.t 61)), o 63 (.faddr 1 (.t 62)), o 64 (.load none (.t 63)), o 8 (.mv (.t 59)), o 9 (.mv (.t 64)), o 10 (.mv (.c (.int .i64 0)))])
      (.ret))) (.seq (.reg [o 66 (.mv (.t 0)), o 67 (.lenL (.t 66)), o 68 (.bin .geq (.t 67) (.c (.int .i64 8))), o 65 (.mv (.t 68))])
      (.cond (.t 65) (.seq (.reg [o 69 (.mv (.t 11)), o 8 (.mv (.t 69)), o 9 (.mv (.c (.str []))), o 10 (.mv (.c (.int .i64 3)))])
       (.ret)) (.skip))))))))))
  (.seq (.reg [o 70 (.mv (.t 11)), o 71 (.mv (.t 1)), o 72 (.mv (.t 2)), o 73 (.mv (.t 3)), o 74 (.build [(.str []), (.str []), (.int .i64 0), (.int .i64 0)] [(0, 1, (.t 71)), (2, 1, (.t 72)), (3, 1, (.t 73))]), o 75 (.bslice 4 [(.str []), (.str []), (.int .i64 0), (.int .i64 0)] 1 [(0, (.t 74))]), o 76 (.append 4 48 (.t 70) (.t 75)), o 8 (.mv (.t 76)), o 9 (.mv (.c (.str []))), o 10 (.mv (.c (.int .i64 0)))])
  (.ret))))),
  [.tmp 8, .tmp 9, .tmp 10]⟩
/- loop.example/g03011/spec.DrawRunActors -/
def F65 : Fun := ⟨18,
  .seq (.reg [o 2 (.mv (.c .nsl)), o 3 (.mv (.c .nsl)), o 4 (.mv (.c .nsl))])
  (.seq (.reg [o 8 (.mv (.t 0)), o 9 (.call 92 [(.t 8)]), o 5 (.mv (.t 9))])
  (.seq (.reg [o 10 (.mv (.t 5)), o 11 (.call 115 [(.t 10)]), o 6 (.mv (.t 11))])
  (.seq (.reg [o 12 (.mv (.t 5)), o 13 (.call 116 [(.t 12)]), o 7 (.mv (.t 13))])
  (.seq (.reg [o 14 (.mv (.t 6)), o 15 (.mv (.t 7)), o 16 (.mv (.t 5)), o 17 (.call 117 [(.t 16)]), o 2 (.mv (.t 14)), o 3 (.mv (.t 15)), o 4 (.mv (.t 17))])
  (.ret))))),
  [.tmp 2, .tmp 3, .tmp 4]⟩
/- loop.example/g03011/impl.RunActors -/
def F66 : Fun := ⟨95,
  .seq (.reg [o 6 (.mv (.c .nsl)), o 7 (.mv (.c .nsl))])
  (.seq (.reg [o 15 (.mv (.t 0)), o 16 (.call 101 [(.t 15)]), o 8 (.mv (.t 16))])
  (.seq (.reg [o 17 (.mv (.t 1)), o 18 (.call 118 [(.t 17)]), o 9 (.mv (.t 18))])
  (.seq (.seq (.reg [o 19 (.mv (.t 1)), o 20 (.lenL (.t 19)), o 21 (.mv (.c (.int .i64 0)))])
  (.block 0 (.loop (.seq (.reg [o 22 (.bin .lss (.t 21) (.t 20))])
    (.seq (.cond (.t 22) (.skip) (.exit 0))
    (.seq (.block 1 (.seq (.reg [o 23 (.mv (.t 21)), o 24 (.iaddr 7 (.t 19) (.t 21)), o 25 (.load (some 7) (.t 24)), o 11 (.new 7 [(.bool false), (.int .i64 0), (.int .i64 0), .nsl, (.int .i64 0), (.int .i64 0), (.int .i64 0)]), o 10 (.mv (.t 23)), st (.store 7 (.t 11) (.t 25))])
     (.reg [o 26 (.mv (.t 9)), o 27 (.mv (.t 10)), o 28 (.faddr 3 (.t 11)), o 29 (.load none (.t 28)), o 30 (.call 90 [(.t 29)]), o 31 (.iaddr 7 (.t 26) (.t 27)), o 32 (.faddr 3 (.t 31)), st (.store 1 (.t 32) (.t 30))])))
    (.reg [o 33 (.bin .add (.t 21) (.c (.int .i64 1))), o 21 (.mv (.t 33))])))))))
  (.seq (.seq (.reg [o 34 (.mv (.t 0)), o 35 (.call 89 [(.t 34)]), o 36 (.un .not (.t 35)), o 37 (.mv (.t 36)), og 38 (.mv (.t 1)) 37 false, og 39 (.call 119 [(.t 38)]) 37 false, og 40 (.un .not (.t 39)) 37 false, o 41 (.pick (.t 37) (.c (.bool true)) (.t 40)), o 42 (.mv (.t 41)), og 43 (.mv (.t 1)) 42 false, og 44 (.lenL (.t 43)) 42 false, og 45 (.bin .eql (.t 44) (.c (.int .i64 0))) 42 false, o 46 (.pick (.t 42) (.c (.bool true)) (.t 45))])
  (.cond (.t 46) (.seq (.reg [o 47 (.mv (.t 8)), o 48 (.mv (.t 9)), o 6 (.mv (.t 47)), o 7 (.mv (.t 48))])
   (.ret)) (.skip)))
  (.seq (.seq (.reg [o 49 (.mv (.t 2)), o 50 (.lenL (.t 49)), o 51 (.mv (.c (.int .i64 0)))])
  (.block 2 (.loop (.seq (.reg [o 52 (.bin .lss (.t 51) (.t 50))])
    (.seq (.cond (.t 52) (.skip) (.exit 2))
    (.seq (.block 3 (.seq (.reg [o 53 (.iaddr 1 (.t 49) (.t 51)), o 54 (.load none (.t 53)), o 13 (.mv (.t 54))])
     (.seq (.seq (.reg [o 55 (.mv (.t 13)), o 56 (.bin .geq (.t 55) (.c (.int .i64 0)))])
     (.cond (.t 56) (.seq (.reg [o 57 (.mv (.t 8)), o 58 (.mv (.t 9)), o 59 (.mv (.t 13)), o 60 (.mv (.t 9)), o 61 (.lenL (.t 60)), o 62 (.bin .rem (.t 59) (.t 61)), o 63 (.call 120 [(.t 57), (.t 58), (.t 62)])])
      (.exit 3)) (.skip)))
     (.seq (.reg [o 64 (.mv (.t 13)), o 65 (.bin .add (.t 64) (.c (.int .i64 1))), o 66 (.un .neg (.t 65)), o 67 (.mv (.t 9)), o 68 (.lenL (.t 67)), o 69 (.bin .rem (.t 66) (.t 68)), o 14 (.mv (.t 69))])
     (.seq (.seq (.reg [o 70 (.mv (.t 9)), o 71 (.mv (.t 14)), o 72 (.iaddr 7 (.t 70) (.t 71)), o 73 (.faddr 4 (.t 72)), o 74 (.load none (.t 73)), o 75 (.bin .eql (.t 74) (.c (.int .i64 0))), o 76 (.mv (.t 75)), og 77 (.mv (.t 9)) 76 false, og 78 (.mv (.t 14)) 76 false, og 79 (.iaddr 7 (.t 77) (.t 78)) 76 false, og 80 (.faddr 4 (.t 79)) 76 false, og 81 (.load none (.t 80)) 76 false, og 82 (.bin .eql (.t 81) (.c (.int .i64 1))) 76 false, o 83 (.pick (.t 76) (.c (.bool true)) (.t 82))])
     (.cond (.t 83) (.reg [o 84 (.mv (.t 9)), o 85 (.mv (.t 14)), o 86 (.iaddr 7 (.t 84) (.t 85)), o 87 (.faddr 4 (.t 86)), st (.store 1 (.t 87) (.c (.int .i64 4)))]) (.skip)))
     (.reg [o 88 (.mv (.t 8)), o 89 (.mv (.t 14)), o 90 (.bin .add (.t 89) (.c (.int .i64 1))), o 91 (.call 103 [(.t 88), (.t 90)])]))))))
    (.reg [o 92 (.bin .add (.t 51) (.c (.int .i64 1))), o 51 (.mv (.t 92))])))))))
  (.seq (.reg [o 93 (.mv (.t 8)), o 94 (.mv (.t 9)), o 6 (.mv (.t 93)), o 7 (.mv (.t 94))])
  (.ret))))))),
  [.tmp 6, .tmp 7]⟩
/- loop.example/g03011/spec.AreLines -/
def F67 : Fun := ⟨50,
  .seq (.reg [o 2 (.mv (.c (.bool false)))])
  (.seq (.seq (.reg [o 3 (.mv (.c (.int .i64 0)))])
  (.block 0 (.loop (.seq (.seq (.reg [o 5 (.mv (.t 3)), o 6 (.mv (.t 0)), o 7 (.lenL (.t 6)), o 8 (.bin .lss (.t 5) (.t 7))])
    (.cond (.t 8) (.skip) (.exit 0)))
    (.seq (.block 1 (.seq (.reg [o 11 (.mv (.t 0)), o 12 (.mv (.t 3)), o 13 (.iaddr 4 (.t 11) (.t 12)), o 14 (.load (some 4) (.t 13)), o 4 (.new 4 [(.int .i64 0), (.int .i64 0), (.int .i64 0), .nsl]), st (.store 4 (.t 4) (.t 14))])
     (.seq (.reg [o 15 (.faddr 0 (.t 4)), o 16 (.load none (.t 15)), o 17 (.call 80 [(.t 16), (.c (.int .i64 0)), (.c (.int .i64 1000000000000))]), o 18 (.un .not (.t 17)), o 19 (.mv (.t 18)), og 20 (.faddr 1 (.t 4)) 19 false, og 21 (.load none (.t 20)) 19 false, og 22 (.call 80 [(.t 21), (.c (.int .i64 0)), (.c (.int .i64 8))]) 19 false, og 23 (.un .not (.t 22)) 19 false, o 24 (.pick (.t 19) (.c (.bool true)) (.t 23)), o 25 (.mv (.t 24)), og 26 (.faddr 2 (.t 4)) 25 false, og 27 (.load none (.t 26)) 25 false, og 28 (.call 80 [(.t 27), (.c (.int .i64 0)), (.c (.int .i64 1000000000000))]) 25 false, og 29 (.un .not (.t 28)) 25 false, o 30 (.pick (.t 25) (.c (.bool true)) (.t 29)), o 31 (.mv (.t 30)), og 32 (.faddr 3 (.t 4)) 31 false, og 33 (.load none (.t 32)) 31 false, og 34 (.lenL (.t 33)) 31 false, og 35 (.bin .gtr (.t 34) (.c (.int .i64 4100))) 31 false, o 36 (.pick (.t 31) (.c (.bool true)) (.t 35)), o 37 (.mv (.t 36)), og 38 (.faddr 0 (.t 4)) 37 false, og 39 (.load none (.t 38)) 37 false, og 40 (.bin .rem (.t 39) (.c (.int .i64 2))) 37 false, og 41 (.bin .eql (.t 40) (.c (.int .i64 1))) 37 false, og 42 (.faddr 1 (.t 4)) 37 false, og 43 (.load none (.t 42)) 37 false, og 44 (.bin .gtr (.t 43) (.c (.int .i64 0))) 37 false, og 45 (.binb .neq (.t 41) (.t 44)) 37 false, o 46 (.pick (.t 37) (.c (.bool true)) (.t 45))])
     (.cond (.t 46) (.seq (.reg [o 2 (.mv (.c (.bool false)))])
      (.ret)) (.skip)))))
    (.reg [o 9 (.mv (.t 3)), o 10 (.bin .add (.t 9) (.c (.int .i64 1))), o 3 (.mv (.t 10))]))))))
  (.seq (.reg [o 47 (.mv (.t 0)), o 48 (.lenL (.t 47)), o 49 (.bin .leq (.t 48) (.c (.int .i64 8))), o 2 (.mv (.t 49))])
  (.ret))),
  [.tmp 2]⟩
/- loop.example/g03011/spec.AreActors -/
def F68 : Fun := ⟨60,
  .seq (.reg [o 2 (.mv (.c (.bool false)))])
  (.seq (.seq (.reg [o 3 (.mv (.c (.int .i64 0)))])
  (.block 0 (.loop (.seq (.seq (.reg [o 5 (.mv (.t 3)), o 6 (.mv (.t 0)), o 7 (.lenL (.t 6)), o 8 (.bin .lss (.t 5) (.t 7))])
    (.cond (.t 8) (.skip) (.exit 0)))
    (.seq (.block 1 (.seq (.reg [o 11 (.mv (.t 0)), o 12 (.mv (.t 3)), o 13 (.iaddr 7 (.t 11) (.t 12)), o 14 (.load (some 7) (.t 13)), o 4 (.new 7 [(.bool false), (.int .i64 0), (.int .i64 0), .nsl, (.int .i64 0), (.int .i64 0), (.int .i64 0)]), st (.store 7 (.t 4) (.t 14))])
     (.seq (.reg [o 15 (.faddr 1 (.t 4)), o 16 (.load none (.t 15)), o 17 (.call 80 [(.t 16), (.c (.int .i64 0)), (.c (.int .i64 7))]), o 18 (.un .not (.t 17)), o 19 (.mv (.t 18)), og 20 (.faddr 2 (.t 4)) 19 false, og 21 (.load none (.t 20)) 19 false, og 22 (.call 80 [(.t 21), (.c (.int .i64 1)), (.c (.int .i64 1000000000000))]) 19 false, og 23 (.un .not (.t 22)) 19 false, o 24 (.pick (.t 19) (.c (.bool true)) (.t 23)), o 25 (.mv (.t 24)), og 26 (.faddr 3 (.t 4)) 25 false, og 27 (.load none (.t 26)) 25 false, og 28 (.lenL (.t 27)) 25 false, og 29 (.bin .gtr (.t 28) (.c (.int .i64 4100))) 25 false, o 30 (.pick (.t 25) (.c (.bool true)) (.t 29)), o 31 (.mv (.t 30)), og 32 (.faddr 4 (.t 4)) 31 false, og 33 (.load none (.t 32)) 31 false, og 34 (.bin .neq (.t 33) (.c (.int .i64 0))) 31 false, o 35 (.pick (.t 31) (.c (.bool true)) (.t 34)), o 36 (.mv (.t 35)), og 37 (.faddr 5 (.t 4)) 36 false, og 38 (.load none (.t 37)) 36 false, og 39 (.bin .neq (.t 38) (.c (.int .i64 0))) 36 false, o 40 (.pick (.t 36) (.c (.bool true)) (.t 39)), o 41 (.mv (.t 40)), og 42 (.faddr 6 (.t 4)) 41 false, og 43 (.load none (.t 42)) 41 false, og 44 (.bin .neq (.t 43) (.c (.int .i64 0))) 41 false, o 45 (.pick (.t 41) (.c (.bool true)) (.t 44)), o 46 (.mv (.t 45)), og 47 (.faddr 0 (.t 4)) 46 false, og 48 (.load none (.t 47)) 46 false, og 49 (.un .not (.t 48)) 46 false, og 50 (.mv (.t 49)) 46 false, og 51 (.faddr 3 (.t 4)) 50 true, og 52 (.load none (.t 51)) 50 true, og 53 (.lenL (.t 52)) 50 true, og 54 (.bin .gtr (.t 53) (.c (.int .i64 0))) 50 true, og 55 (.pick (.t 50) (.t 54) (.c (.bool false))) 46 false, o 56 (.pick (.t 46) (.c (.bool true)) (.t 55))])
     (.cond (.t 56) (.seq (.reg [o 2 (.mv (.c (.bool false)))])
      (.ret)) (.skip)))))
    (.reg [o 9 (.mv (.t 3)), o 10 (.bin .add (.t 9) (.c (.int .i64 1))), o 3 (.mv (.t 10))]))))))
  (.seq (.reg [o 57 (.mv (.t 0)), o 58 (.lenL (.t 57)), o 59 (.bin .leq (.t 58) (.c (.int .i64 8))), o 2 (.mv (.t 59))])
  (.ret))),
  [.tmp 2]⟩
/- loop.example/g03011/laws.sameInts -/
def F69 : Fun := ⟨26,
  .seq (.reg [o 4 (.mv (.c (.bool false)))])
  (.seq (.seq (.reg [o 6 (.mv (.t 0)), o 7 (.lenL (.t 6)), o 8 (.mv (.t 1)), o 9 (.lenL (.t 8)), o 10 (.bin .neq (.t 7) (.t 9))])
  (.cond (.t 10) (.seq (.reg [o 4 (.mv (.c (.bool false)))])
   (.ret)) (.skip)))
  (.seq (.seq (.reg [o 5 (.mv (.c (.int .i64 0)))])
  (.block 0 (.loop (.seq (.seq (.reg [o 11 (.mv (.t 5)), o 12 (.mv (.t 0)), o 13 (.lenL (.t 12)), o 14 (.bin .lss (.t 11) (.t 13))])
    (.cond (.t 14) (.skip) (.exit 0)))
    (.seq (.block 1 (.seq (.reg [o 17 (.mv (.t 0)), o 18 (.mv (.t 5)), o 19 (.iaddr 1 (.t 17) (.t 18)), o 20 (.load none (.t 19)), o 21 (.mv (.t 1)), o 22 (.mv (.t 5)), o 23 (.iaddr 1 (.t 21) (.t 22)), o 24 (.load none (.t 23)), o 25 (.bin .neq (.t 20) (.t 24))])
     (.cond (.t 25) (.seq (.reg [o 4 (.mv (.c (.bool false)))])
      (.ret)) (.skip))))
    (.reg [o 15 (.mv (.t 5)), o 16 (.bin .add (.t 15) (.c (.int .i64 1))), o 5 (.mv (.t 16))]))))))
  (.seq (.reg [o 4 (.mv (.c (.bool true)))])
  (.ret)))),
  [.tmp 4]⟩
/- loop.example/g03011/spec.DrawRecover -/
def F70 : Fun := ⟨23,
  .seq (.reg [o 2 (.mv (.c .nsl)), o 3 (.mv (.c (.int .i64 0)))])
  (.seq (.reg [o 7 (.mv (.t 0)), o 8 (.call 92 [(.t 7)]), o 4 (.mv (.t 8))])
  (.seq (.reg [o 10 (.mv (.t 4)), o 11 (.call 115 [(.t 10)]), o 12 (.mv (.t 4)), o 13 (.call 116 [(.t 12)]), o 14 (.mv (.t 4)), o 15 (.call 117 [(.t 14)]), o 16 (.call 121 [(.t 11), (.t 13), (.t 15)]), o 9 (.mv (.t 16)), o 17 (.extract (.t 9) 0), o 18 (.extract (.t 9) 1), o 5 (.mv (.t 17)), o 6 (.mv (.t 18))])
  (.seq (.reg [o 19 (.mv (.t 5)), o 20 (.mv (.t 4)), o 21 (.call 105 [(.t 20), (.c (.int .i64 5))]), o 22 (.bin .sub (.t 21) (.c (.int .i64 1))), o 2 (.mv (.t 19)), o 3 (.mv (.t 22))])
  (.ret)))),
  [.tmp 2, .tmp 3]⟩
/- loop.example/g03011/spec.DrawWriteLine -/
def F71 : Fun := ⟨31,
  .seq (.reg [o 2 (.mv (.c .nsl)), o 3 (.mv (.c (.int .i64 0))), o 4 (.mv (.c (.int .i64 0))), o 5 (.mv (.c .nsl))])
  (.seq (.reg [o 10 (.mv (.t 0)), o 11 (.call 92 [(.t 10)]), o 6 (.mv (.t 11))])
  (.seq (.reg [o 13 (.mv (.t 6)), o 14 (.call 115 [(.t 13)]), o 15 (.mv (.t 6)), o 16 (.call 116 [(.t 15)]), o 17 (.mv (.t 6)), o 18 (.call 117 [(.t 17)]), o 19 (.call 121 [(.t 14), (.t 16), (.t 18)]), o 12 (.mv (.t 19)), o 20 (.extract (.t 12) 0), o 21 (.extract (.t 12) 1), o 7 (.mv (.t 20)), o 8 (.mv (.t 21))])
  (.seq (.reg [o 22 (.mv (.t 6)), o 23 (.call 105 [(.t 22), (.c (.int .i64 4))]), o 24 (.bin .sub (.t 23) (.c (.int .i64 1))), o 9 (.mv (.t 24))])
  (.seq (.reg [o 25 (.mv (.t 7)), o 26 (.mv (.t 9)), o 27 (.mv (.t 6)), o 28 (.call 105 [(.t 27), (.c (.int .i64 4))]), o 29 (.mv (.t 6)), o 30 (.call 122 [(.t 29), (.c (.int .i64 4))]), o 2 (.mv (.t 25)), o 3 (.mv (.t 26)), o 4 (.mv (.t 28)), o 5 (.mv (.t 30))])
  (.ret))))),
  [.tmp 2, .tmp 3, .tmp 4, .tmp 5]⟩
/- loop.example/g03011/laws.szAnswerS -/
def F72 : Fun := ⟨27,
  .seq (.reg [o 4 (.mv (.c (.int .i64 0)))])
  (.seq (.reg [o 6 (.mv (.t 1)), o 7 (.mv (.t 0)), o 8 (.lenL (.t 7)), o 9 (.bin .sub (.t 6) (.t 8)), o 1 (.mv (.t 9))])
  (.seq (.seq (.reg [o 10 (.mv (.t 1)), o 11 (.bin .lss (.t 10) (.c (.int .i64 0)))])
  (.cond (.t 11) (.seq (.reg [o 4 (.mv (.c (.int .i64 (-1))))])
   (.ret)) (.skip)))
  (.seq (.seq (.reg [o 5 (.mv (.c (.int .i64 0)))])
  (.block 0 (.loop (.seq (.seq (.reg [o 12 (.mv (.t 5)), o 13 (.mv (.t 0)), o 14 (.lenL (.t 13)), o 15 (.bin .lss (.t 12) (.t 14))])
    (.cond (.t 15) (.skip) (.exit 0)))
    (.seq (.block 1 (.seq (.reg [o 18 (.mv (.t 0)), o 19 (.mv (.t 5)), o 20 (.iaddr 11 (.t 18) (.t 19)), o 21 (.load (some 11) (.t 20)), o 22 (.mv (.t 1)), o 23 (.call 123 [(.t 21), (.t 22)]), o 1 (.mv (.t 23))])
     (.seq (.reg [o 24 (.mv (.t 1)), o 25 (.bin .lss (.t 24) (.c (.int .i64 0)))])
     (.cond (.t 25) (.seq (.reg [o 4 (.mv (.c (.int .i64 (-1))))])
      (.ret)) (.skip)))))
    (.reg [o 16 (.mv (.t 5)), o 17 (.bin .add (.t 16) (.c (.int .i64 1))), o 5 (.mv (.t 17))]))))))
  (.seq (.reg [o 26 (.mv (.t 1)), o 4 (.mv (.t 26))])
  (.ret))))),
  [.tmp 4]⟩
/- loop.example/g03011/spec.IsSequential -/
def F73 : Fun := ⟨45,
  .seq (.reg [o 2 (.mv (.c (.bool false)))])
  (.seq (.seq (.reg [o 3 (.mv (.c (.int .i64 0)))])
  (.block 0 (.loop (.seq (.seq (.reg [o 6 (.mv (.t 3)), o 7 (.mv (.t 0)), o 8 (.lenL (.t 7)), o 9 (.bin .lss (.t 6) (.t 8))])
    (.cond (.t 9) (.skip) (.exit 0)))
    (.seq (.block 1 (.seq (.reg [o 13 (.mv (.t 0)), o 14 (.mv (.t 3)), o 15 (.call 124 [(.t 13), (.t 14)]), o 12 (.mv (.t 15)), o 16 (.extract (.t 12) 0), o 17 (.extract (.t 12) 1), o 4 (.mv (.t 16)), o 5 (.mv (.t 17))])
     (.seq (.reg [o 18 (.mv (.t 0)), o 19 (.mv (.t 3)), o 20 (.iaddr 11 (.t 18) (.t 19)), o 21 (.faddr 6 (.t 20)), o 22 (.load none (.t 21)), o 23 (.bin .neq (.t 22) (.c (.str []))), o 24 (.mv (.t 23)), og 25 (.mv (.t 0)) 24 true, og 26 (.mv (.t 3)) 24 true, og 27 (.iaddr 11 (.t 25) (.t 26)) 24 true, og 28 (.faddr 1 (.t 27)) 24 true, og 29 (.load none (.t 28)) 24 true, og 30 (.bin .eql (.t 29) (.c (.str []))) 24 true, og 31 (.mv (.t 30)) 24 true, og 32 (.mv (.t 5)) 31 false, og 33 (.un .not (.t 32)) 31 false, og 34 (.pick (.t 31) (.c (.bool true)) (.t 33)) 24 true, og 35 (.mv (.t 34)) 24 true, og 36 (.mv (.t 0)) 35 false, og 37 (.mv (.t 3)) 35 false, og 38 (.iaddr 11 (.t 36) (.t 37)) 35 false, og 39 (.faddr 6 (.t 38)) 35 false, og 40 (.load none (.t 39)) 35 false, og 41 (.mv (.t 4)) 35 false, og 42 (.bin .neq (.t 40) (.t 41)) 35 false, og 43 (.pick (.t 35) (.c (.bool true)) (.t 42)) 24 true, o 44 (.pick (.t 24) (.t 43) (.c (.bool false)))])
     (.cond (.t 44) (.seq (.reg [o 2 (.mv (.c (.bool false)))])
      (.ret)) (.skip)))))
    (.reg [o 10 (.mv (.t 3)), o 11 (.bin .add (.t 10) (.c (.int .i64 1))), o 3 (.mv (.t 11))]))))))
  (.seq (.reg [o 2 (.mv (.c (.bool true)))])
  (.ret))),
  [.tmp 2]⟩
/- loop.example/g03011/laws.toAnswerS -/
def F74 : Fun := ⟨23,
  .seq (.reg [o 2 (.mv (.c .nsl))])
  (.seq (.reg [o 5 (.mv (.t 0)), o 6 (.lenL (.t 5)), o 7 (.mkslice 11 [(.int .i64 0), (.str []), .nsl, (.str []), .nsl, .nsl, (.str []), (.int .i64 0), .nsl, (.str []), (.str [])] 192 (.t 6) (.t 6)), o 3 (.mv (.t 7))])
  (.seq (.seq (.reg [o 4 (.mv (.c (.int .i64 0)))])
  (.block 0 (.loop (.seq (.seq (.reg [o 8 (.mv (.t 4)), o 9 (.mv (.t 0)), o 10 (.lenL (.t 9)), o 11 (.bin .lss (.t 8) (.t 10))])
    (.cond (.t 11) (.skip) (.exit 0)))
    (.seq (.block 1 (.reg [o 14 (.mv (.t 3)), o 15 (.mv (.t 4)), o 16 (.mv (.t 0)), o 17 (.mv (.t 4)), o 18 (.iaddr 11 (.t 16) (.t 17)), o 19 (.load (some 11) (.t 18)), o 20 (.call 125 [(.t 19)]), o 21 (.iaddr 11 (.t 14) (.t 15)), st (.store 11 (.t 21) (.t 20))]))
    (.reg [o 12 (.mv (.t 4)), o 13 (.bin .add (.t 12) (.c (.int .i64 1))), o 4 (.mv (.t 13))]))))))
  (.seq (.reg [o 22 (.mv (.t 3)), o 2 (.mv (.t 22))])
  (.ret)))),
  [.tmp 2]⟩
/- loop.example/g03011/impl.IsSequential -/
def F75 : Fun := ⟨46,
  .seq (.reg [o 2 (.mv (.c (.bool false)))])
  (.seq (.reg [o 8 (.mkmap), o 3 (.mv (.t 8))])
  (.seq (.seq (.reg [o 9 (.mv (.t 0)), o 10 (.lenL (.t 9)), o 11 (.mv (.c (.int .i64 0)))])
  (.block 0 (.loop (.seq (.reg [o 12 (.bin .lss (.t 11) (.t 10))])
    (.seq (.cond (.t 12) (.skip) (.exit 0))
    (.seq (.block 1 (.seq (.reg [o 13 (.iaddr 11 (.t 9) (.t 11)), o 14 (.load (some 11) (.t 13)), o 5 (.new 11 [(.int .i64 0), (.str []), .nsl, (.str []), .nsl, .nsl, (.str []), (.int .i64 0), .nsl, (.str []), (.str [])]), st (.store 11 (.t 5) (.t 14))])
     (.seq (.reg [o 16 (.mv (.t 3)), o 17 (.faddr 1 (.t 5)), o 18 (.load none (.t 17)), o 19 (.lookup 1 (.str []) true (.t 16) (.t 18)), o 15 (.mv (.t 19)), o 20 (.extract (.t 15) 0), o 21 (.extract (.t 15) 1), o 6 (.mv (.t 20)), o 7 (.mv (.t 21))])
     (.seq (.seq (.reg [o 22 (.faddr 6 (.t 5)), o 23 (.load none (.t 22)), o 24 (.bin .neq (.t 23) (.c (.str []))), o 25 (.mv (.t 24)), og 26 (.faddr 1 (.t 5)) 25 true, og 27 (.load none (.t 26)) 25 true, og 28 (.bin .eql (.t 27) (.c (.str []))) 25 true, og 29 (.mv (.t 28)) 25 true, og 30 (.mv (.t 7)) 29 false, og 31 (.un .not (.t 30)) 29 false, og 32 (.pick (.t 29) (.c (.bool true)) (.t 31)) 25 true, og 33 (.mv (.t 32)) 25 true, og 34 (.mv (.t 6)) 33 false, og 35 (.faddr 6 (.t 5)) 33 false, og 36 (.load none (.t 35)) 33 false, og 37 (.bin .neq (.t 34) (.t 36)) 33 false, og 38 (.pick (.t 33) (.c (.bool true)) (.t 37)) 25 true, o 39 (.pick (.t 25) (.t 38) (.c (.bool false)))])
     (.cond (.t 39) (.seq (.reg [o 2 (.mv (.c (.bool false)))])
      (.ret)) (.skip)))
     (.reg [o 40 (.mv (.t 3)), o 41 (.faddr 1 (.t 5)), o 42 (.load none (.t 41)), o 43 (.faddr 10 (.t 5)), o 44 (.load none (.t 43)), st (.mupd 1 (.t 40) (.t 42) (.t 44))])))))
    (.reg [o 45 (.bin .add (.t 11) (.c (.int .i64 1))), o 11 (.mv (.t 45))])))))))
  (.seq (.reg [o 2 (.mv (.c (.bool true)))])
  (.ret)))),
  [.tmp 2]⟩
/- loop.example/g03011/laws.eqAnswerS -/
def F76 : Fun := ⟨27,
  .seq (.reg [o 4 (.mv (.c (.bool false)))])
  (.seq (.seq (.reg [o 6 (.mv (.t 0)), o 7 (.lenL (.t 6)), o 8 (.mv (.t 1)), o 9 (.lenL (.t 8)), o 10 (.bin .neq (.t 7) (.t 9))])
  (.cond (.t 10) (.seq (.reg [o 4 (.mv (.c (.bool false)))])
   (.ret)) (.skip)))
  (.seq (.seq (.reg [o 5 (.mv (.c (.int .i64 0)))])
  (.block 0 (.loop (.seq (.seq (.reg [o 11 (.mv (.t 5)), o 12 (.mv (.t 0)), o 13 (.lenL (.t 12)), o 14 (.bin .lss (.t 11) (.t 13))])
    (.cond (.t 14) (.skip) (.exit 0)))
    (.seq (.block 1 (.seq (.reg [o 17 (.mv (.t 0)), o 18 (.mv (.t 5)), o 19 (.iaddr 11 (.t 17) (.t 18)), o 20 (.load (some 11) (.t 19)), o 21 (.mv (.t 1)), o 22 (.mv (.t 5)), o 23 (.iaddr 11 (.t 21) (.t 22)), o 24 (.load (some 11) (.t 23)), o 25 (.callF 126 [(.t 20), (.t 24)]), o 26 (.un .not (.t 25))])
     (.cond (.t 26) (.seq (.reg [o 4 (.mv (.c (.bool false)))])
      (.ret)) (.skip))))
    (.reg [o 15 (.mv (.t 5)), o 16 (.bin .add (.t 15) (.c (.int .i64 1))), o 5 (.mv (.t 16))]))))))
  (.seq (.reg [o 4 (.mv (.c (.bool true)))])
  (.ret)))),
  [.tmp 4]⟩
/- loop.example/g03011/laws.szSession -/
def F77 : Fun := ⟨20,
  .seq (.reg [o 2 (.box 4 (.t 0)), o 4 (.mv (.c (.int .i64 0)))])
  (.seq (.reg [o 5 (.mv (.t 1)), o 6 (.faddr 0 (.t 2)), o 7 (.load none (.t 6)), o 8 (.lenS (.t 7)), o 9 (.bin .sub (.t 5) (.t 8)), o 1 (.mv (.t 9))])
  (.seq (.seq (.reg [o 10 (.mv (.t 1)), o 11 (.bin .lss (.t 10) (.c (.int .i64 0)))])
  (.cond (.t 11) (.seq (.reg [o 4 (.mv (.c (.int .i64 (-1))))])
   (.ret)) (.skip)))
  (.seq (.reg [o 12 (.mv (.t 1)), o 13 (.faddr 1 (.t 2)), o 14 (.load none (.t 13)), o 15 (.lenS (.t 14)), o 16 (.bin .sub (.t 12) (.t 15)), o 1 (.mv (.t 16))])
  (.seq (.seq (.reg [o 17 (.mv (.t 1)), o 18 (.bin .lss (.t 17) (.c (.int .i64 0)))])
  (.cond (.t 18) (.seq (.reg [o 4 (.mv (.c (.int .i64 (-1))))])
   (.ret)) (.skip)))
  (.seq (.reg [o 19 (.mv (.t 1)), o 4 (.mv (.t 19))])
  (.ret)))))),
  [.tmp 4]⟩
/- loop.example/g03011/spec.IsName -/
def F78 : Fun := ⟨18,
  .seq (.reg [o 2 (.mv (.c (.bool false)))])
  (.seq (.reg [o 3 (.mv (.t 0)), o 4 (.lenS (.t 3)), o 5 (.bin .geq (.t 4) (.c (.int .i64 1))), o 6 (.mv (.t 5)), og 7 (.mv (.t 0)) 6 true, og 8 (.lenS (.t 7)) 6 true, og 9 (.bin .leq (.t 8) (.c (.int .i64 20))) 6 true, o 10 (.pick (.t 6) (.t 9) (.c (.bool false))), o 11 (.mv (.t 10)), og 12 (.mv (.t 0)) 11 true, og 13 (.call 127 [(.t 12), (.c (.int .i64 0))]) 11 true, og 14 (.mv (.t 0)) 11 true, og 15 (.lenS (.t 14)) 11 true, og 16 (.bin .eql (.t 13) (.t 15)) 11 true, o 17 (.pick (.t 11) (.t 16) (.c (.bool false))), o 2 (.mv (.t 17))])
  (.ret)),
  [.tmp 2]⟩
/- loop.example/g03011/spec.FindSession -/
def F79 : Fun := ⟨20,
  .seq (.reg [o 4 (.mv (.c (.int .i64 0)))])
  (.seq (.seq (.reg [o 5 (.mv (.c (.int .i64 0)))])
  (.block 0 (.loop (.seq (.seq (.reg [o 6 (.mv (.t 5)), o 7 (.mv (.t 0)), o 8 (.lenL (.t 7)), o 9 (.bin .lss (.t 6) (.t 8))])
    (.cond (.t 9) (.skip) (.exit 0)))
    (.seq (.block 1 (.seq (.reg [o 12 (.mv (.t 0)), o 13 (.mv (.t 5)), o 14 (.iaddr 4 (.t 12) (.t 13)), o 15 (.faddr 0 (.t 14)), o 16 (.load none (.t 15)), o 17 (.mv (.t 1)), o 18 (.bin .eql (.t 16) (.t 17))])
     (.cond (.t 18) (.seq (.reg [o 19 (.mv (.t 5)), o 4 (.mv (.t 19))])
      (.ret)) (.skip))))
    (.reg [o 10 (.mv (.t 5)), o 11 (.bin .add (.t 10) (.c (.int .i64 1))), o 5 (.mv (.t 11))]))))))
  (.seq (.reg [o 4 (.mv (.c (.int .i64 (-1))))])
  (.ret))),
  [.tmp 4]⟩
/- loop.example/g03011/spec.l1In -/
def F80 : Fun := ⟨15,
  .seq (.reg [o 6 (.mv (.c (.bool false)))])
  (.seq (.reg [o 7 (.mv (.t 0)), o 8 (.mv (.t 1)), o 9 (.bin .geq (.t 7) (.t 8)), o 10 (.mv (.t 9)), og 11 (.mv (.t 0)) 10 true, og 12 (.mv (.t 2)) 10 true, og 13 (.bin .leq (.t 11) (.t 12)) 10 true, o 14 (.pick (.t 10) (.t 13) (.c (.bool false))), o 6 (.mv (.t 14))])
  (.ret)),
  [.tmp 6]⟩
/- loop.example/g03011/laws.toSession -/
def F81 : Fun := ⟨17,
  .seq (.reg [o 1 (.box 4 (.t 0)), o 2 (.new 4 [(.str []), (.str []), (.int .i64 0), (.int .i64 0)])])
  (.seq (.reg [o 3 (.new 4 [(.str []), (.str []), (.int .i64 0), (.int .i64 0)])])
  (.seq (.reg [o 4 (.faddr 0 (.t 1)), o 5 (.load none (.t 4)), o 6 (.faddr 0 (.t 3)), st (.store 1 (.t 6) (.t 5))])
  (.seq (.reg [o 7 (.faddr 1 (.t 1)), o 8 (.load none (.t 7)), o 9 (.faddr 1 (.t 3)), st (.store 1 (.t 9) (.t 8))])
  (.seq (.reg [o 10 (.faddr 2 (.t 1)), o 11 (.load none (.t 10)), o 12 (.faddr 2 (.t 3)), st (.store 1 (.t 12) (.t 11))])
  (.seq (.reg [o 13 (.faddr 3 (.t 1)), o 14 (.load none (.t 13)), o 15 (.faddr 3 (.t 3)), st (.store 1 (.t 15) (.t 14))])
  (.seq (.reg [o 16 (.load (some 4) (.t 3)), st (.store 4 (.t 2) (.t 16))])
  (.ret))))))),
  [.cell 2 (some 4)]⟩
/- loop.example/g03011/impl.IsName -/
def F82 : Fun := ⟨17,
  .seq (.reg [o 2 (.mv (.c (.bool false)))])
  (.seq (.reg [o 3 (.mv (.t 0)), o 4 (.lenS (.t 3)), o 5 (.bin .leq (.t 4) (.c (.int .i64 20))), o 6 (.mv (.t 5)), og 7 (.mv (.t 0)) 6 true, og 8 (.call 128 [(.t 7)]) 6 true, og 9 (.mv (.t 0)) 6 true, og 10 (.lenS (.t 9)) 6 true, og 11 (.bin .eql (.t 8) (.t 10)) 6 true, o 12 (.pick (.t 6) (.t 11) (.c (.bool false))), o 13 (.mv (.t 12)), og 14 (.mv (.t 0)) 13 true, og 15 (.bin .neq (.t 14) (.c (.str []))) 13 true, o 16 (.pick (.t 13) (.t 15) (.c (.bool false))), o 2 (.mv (.t 16))])
  (.ret)),
  [.tmp 2]⟩
/- loop.example/g03011/impl.InRange -/
def F83 : Fun := ⟨15,
  .seq (.reg [o 6 (.mv (.c (.bool false)))])
  (.seq (.reg [o 7 (.mv (.t 1)), o 8 (.mv (.t 0)), o 9 (.bin .leq (.t 7) (.t 8)), o 10 (.mv (.t 9)), og 11 (.mv (.t 0)) 10 true, og 12 (.mv (.t 2)) 10 true, og 13 (.bin .leq (.t 11) (.t 12)) 10 true, o 14 (.pick (.t 10) (.t 13) (.c (.bool false))), o 6 (.mv (.t 14))])
  (.ret)),
  [.tmp 6]⟩
/- loop.example/g03011/laws.eqSession -/
def F84 : Fun := ⟨25,
  .seq (.reg [o 2 (.box 4 (.t 0)), o 3 (.box 4 (.t 1)), o 4 (.mv (.c (.bool false)))])
  (.seq (.seq (.reg [o 5 (.faddr 0 (.t 2)), o 6 (.load none (.t 5)), o 7 (.faddr 0 (.t 3)), o 8 (.load none (.t 7)), o 9 (.bin .neq (.t 6) (.t 8))])
  (.cond (.t 9) (.seq (.reg [o 4 (.mv (.c (.bool false)))])
   (.ret)) (.skip)))
  (.seq (.seq (.reg [o 10 (.faddr 1 (.t 2)), o 11 (.load none (.t 10)), o 12 (.faddr 1 (.t 3)), o 13 (.load none (.t 12)), o 14 (.bin .neq (.t 11) (.t 13))])
  (.cond (.t 14) (.seq (.reg [o 4 (.mv (.c (.bool false)))])
   (.ret)) (.skip)))
  (.seq (.seq (.reg [o 15 (.faddr 2 (.t 2)), o 16 (.load none (.t 15)), o 17 (.faddr 2 (.t 3)), o 18 (.load none (.t 17)), o 19 (.bin .neq (.t 16) (.t 18))])
  (.cond (.t 19) (.seq (.reg [o 4 (.mv (.c (.bool false)))])
   (.ret)) (.skip)))
  (.seq (.seq (.reg [o 20 (.faddr 3 (.t 2)), o 21 (.load none (.t 20)), o 22 (.faddr 3 (.t 3)), o 23 (.load none (.t 22)), o 24 (.bin .neq (.t 21) (.t 23))])
  (.cond (.t 24) (.seq (.reg [o 4 (.mv (.c (.bool false)))])
   (.ret)) (.skip)))
  (.seq (.reg [o 4 (.mv (.c (.bool true)))])
  (.ret)))))),
  [.tmp 4]⟩
/- slices.Clone[[]loop.example/g03011/impl.Session,loop.example/g03011/impl.Session] -/
def F85 : Fun := ⟨8,
  .seq (.reg [o 2 (.mv (.c .nsl))])
  (.seq (.seq (.reg [o 3 (.mv (.t 0)), o 4 (.isnl false (.t 3))])
  (.cond (.t 4) (.seq (.reg [o 2 (.mv (.c .nsl))])
   (.ret)) (.skip)))
  (.seq (.reg [o 5 (.bslice 4 [(.str []), (.str []), (.int .i64 0), (.int .i64 0)] 0 []), o 6 (.mv (.t 0)), o 7 (.append 4 48 (.t 5) (.t 6)), o 2 (.mv (.t 7))])
  (.ret))),
  [.tmp 2]⟩
/- loop.example/g03011/laws.markText -/
def F86 : Fun := ⟨20,
  .seq (.reg [o 2 (.mv (.c (.str [])))])
  (.seq (.seq (.reg [o 4 (.mv (.t 0)), o 5 (.bin .leq (.t 4) (.c (.int .i64 0)))])
  (.cond (.t 5) (.seq (.reg [o 2 (.mv (.c (.str [109, 48])))])
   (.ret)) (.skip)))
  (.seq (.reg [o 3 (.mv (.c (.str [])))])
  (.seq (.block 0 (.loop (.seq (.seq (.reg [o 6 (.mv (.t 0)), o 7 (.bin .gtr (.t 6) (.c (.int .i64 0)))])
    (.cond (.t 7) (.skip) (.exit 0)))
    (.block 1 (.seq (.reg [o 8 (.mv (.t 0)), o 9 (.bin .rem (.t 8) (.c (.int .i64 10))), o 10 (.bin .add (.c (.int .i64 48)) (.t 9)), o 11 (.toInt .u8 (.t 10)), o 12 (.bslice 1 [(.int .u8 0)] 1 [(0, (.t 11))]), o 13 (.toStr (.t 12)), o 14 (.mv (.t 3)), o 15 (.bin .add (.t 13) (.t 14)), o 3 (.mv (.t 15))])
     (.reg [o 16 (.mv (.t 0)), o 17 (.bin .quo (.t 16) (.c (.int .i64 10))), o 0 (.mv (.t 17))]))))))
  (.seq (.reg [o 18 (.mv (.t 3)), o 19 (.bin .add (.c (.str [109])) (.t 18)), o 2 (.mv (.t 19))])
  (.ret))))),
  [.tmp 2]⟩
/- loop.example/g03011/laws.szLine -/
def F87 : Fun := ⟨12,
  .seq (.reg [o 2 (.box 4 (.t 0)), o 4 (.mv (.c (.int .i64 0)))])
  (.seq (.reg [o 5 (.faddr 3 (.t 2)), o 6 (.load none (.t 5)), o 7 (.mv (.t 1)), o 8 (.call 129 [(.t 6), (.t 7)]), o 1 (.mv (.t 8))])
  (.seq (.seq (.reg [o 9 (.mv (.t 1)), o 10 (.bin .lss (.t 9) (.c (.int .i64 0)))])
  (.cond (.t 10) (.seq (.reg [o 4 (.mv (.c (.int .i64 (-1))))])
   (.ret)) (.skip)))
  (.seq (.reg [o 11 (.mv (.t 1)), o 4 (.mv (.t 11))])
  (.ret)))),
  [.tmp 4]⟩
/- loop.example/g03011/laws.toLine -/
def F88 : Fun := ⟨18,
  .seq (.reg [o 1 (.box 4 (.t 0)), o 2 (.new 4 [(.int .i64 0), (.int .i64 0), (.int .i64 0), .nsl])])
  (.seq (.reg [o 3 (.new 4 [(.int .i64 0), (.int .i64 0), (.int .i64 0), .nsl])])
  (.seq (.reg [o 4 (.faddr 0 (.t 1)), o 5 (.load none (.t 4)), o 6 (.faddr 0 (.t 3)), st (.store 1 (.t 6) (.t 5))])
  (.seq (.reg [o 7 (.faddr 1 (.t 1)), o 8 (.load none (.t 7)), o 9 (.faddr 1 (.t 3)), st (.store 1 (.t 9) (.t 8))])
  (.seq (.reg [o 10 (.faddr 2 (.t 1)), o 11 (.load none (.t 10)), o 12 (.faddr 2 (.t 3)), st (.store 1 (.t 12) (.t 11))])
  (.seq (.reg [o 13 (.faddr 3 (.t 1)), o 14 (.load none (.t 13)), o 15 (.call 51 [(.t 14)]), o 16 (.faddr 3 (.t 3)), st (.store 1 (.t 16) (.t 15))])
  (.seq (.reg [o 17 (.load (some 4) (.t 3)), st (.store 4 (.t 2) (.t 17))])
  (.ret))))))),
  [.cell 2 (some 4)]⟩
/- loop.example/g03011/impl.AreLines -/
def F89 : Fun := ⟨47,
  .seq (.reg [o 2 (.mv (.c (.bool false)))])
  (.seq (.seq (.reg [o 5 (.mv (.t 0)), o 6 (.lenL (.t 5)), o 7 (.mv (.c (.int .i64 0)))])
  (.block 0 (.loop (.seq (.reg [o 8 (.bin .lss (.t 7) (.t 6))])
    (.seq (.cond (.t 8) (.skip) (.exit 0))
    (.seq (.block 1 (.seq (.reg [o 9 (.iaddr 4 (.t 5) (.t 7)), o 10 (.load (some 4) (.t 9)), o 4 (.new 4 [(.int .i64 0), (.int .i64 0), (.int .i64 0), .nsl]), st (.store 4 (.t 4) (.t 10))])
     (.seq (.reg [o 11 (.faddr 0 (.t 4)), o 12 (.load none (.t 11)), o 13 (.call 83 [(.t 12), (.c (.int .i64 0)), (.c (.int .i64 1000000000000))]), o 14 (.un .not (.t 13)), o 15 (.mv (.t 14)), og 16 (.faddr 2 (.t 4)) 15 false, og 17 (.load none (.t 16)) 15 false, og 18 (.call 83 [(.t 17), (.c (.int .i64 0)), (.c (.int .i64 1000000000000))]) 15 false, og 19 (.un .not (.t 18)) 15 false, o 20 (.pick (.t 15) (.c (.bool true)) (.t 19)), o 21 (.mv (.t 20)), og 22 (.faddr 1 (.t 4)) 21 false, og 23 (.load none (.t 22)) 21 false, og 24 (.call 83 [(.t 23), (.c (.int .i64 0)), (.c (.int .i64 8))]) 21 false, og 25 (.un .not (.t 24)) 21 false, o 26 (.pick (.t 21) (.c (.bool true)) (.t 25)), o 27 (.mv (.t 26)), og 28 (.faddr 3 (.t 4)) 27 false, og 29 (.load none (.t 28)) 27 false, og 30 (.lenL (.t 29)) 27 false, og 31 (.bin .gtr (.t 30) (.c (.int .i64 4100))) 27 false, o 32 (.pick (.t 27) (.c (.bool true)) (.t 31)), o 33 (.mv (.t 32)), og 34 (.faddr 0 (.t 4)) 33 false, og 35 (.load none (.t 34)) 33 false, og 36 (.bin .rem (.t 35) (.c (.int .i64 2))) 33 false, og 37 (.bin .eql (.t 36) (.c (.int .i64 1))) 33 false, og 38 (.faddr 1 (.t 4)) 33 false, og 39 (.load none (.t 38)) 33 false, og 40 (.bin .gtr (.t 39) (.c (.int .i64 0))) 33 false, og 41 (.binb .neq (.t 37) (.t 40)) 33 false, o 42 (.pick (.t 33) (.c (.bool true)) (.t 41))])
     (.cond (.t 42) (.seq (.reg [o 2 (.mv (.c (.bool false)))])
      (.ret)) (.skip)))))
    (.reg [o 43 (.bin .add (.t 7) (.c (.int .i64 1))), o 7 (.mv (.t 43))])))))))
  (.seq (.reg [o 44 (.mv (.t 0)), o 45 (.lenL (.t 44)), o 46 (.bin .leq (.t 45) (.c (.int .i64 8))), o 2 (.mv (.t 46))])
  (.ret))),
  [.tmp 2]⟩
/- slices.Clone[[]int,int] -/
def F90 : Fun := ⟨8,
  .seq (.reg [o 2 (.mv (.c .nsl))])
  (.seq (.seq (.reg [o 3 (.mv (.t 0)), o 4 (.isnl false (.t 3))])
  (.cond (.t 4) (.seq (.reg [o 2 (.mv (.c .nsl))])
   (.ret)) (.skip)))
  (.seq (.reg [o 5 (.bslice 1 [(.int .i64 0)] 0 []), o 6 (.mv (.t 0)), o 7 (.append 1 8 (.t 5) (.t 6)), o 2 (.mv (.t 7))])
  (.ret))),
  [.tmp 2]⟩
/- loop.example/g03011/laws.eqLine -/
def F91 : Fun := ⟨26,
  .seq (.reg [o 2 (.box 4 (.t 0)), o 3 (.box 4 (.t 1)), o 4 (.mv (.c (.bool false)))])
  (.seq (.seq (.reg [o 5 (.faddr 0 (.t 2)), o 6 (.load none (.t 5)), o 7 (.faddr 0 (.t 3)), o 8 (.load none (.t 7)), o 9 (.bin .neq (.t 6) (.t 8))])
  (.cond (.t 9) (.seq (.reg [o 4 (.mv (.c (.bool false)))])
   (.ret)) (.skip)))
  (.seq (.seq (.reg [o 10 (.faddr 1 (.t 2)), o 11 (.load none (.t 10)), o 12 (.faddr 1 (.t 3)), o 13 (.load none (.t 12)), o 14 (.bin .neq (.t 11) (.t 13))])
  (.cond (.t 14) (.seq (.reg [o 4 (.mv (.c (.bool false)))])
   (.ret)) (.skip)))
  (.seq (.seq (.reg [o 15 (.faddr 2 (.t 2)), o 16 (.load none (.t 15)), o 17 (.faddr 2 (.t 3)), o 18 (.load none (.t 17)), o 19 (.bin .neq (.t 16) (.t 18))])
  (.cond (.t 19) (.seq (.reg [o 4 (.mv (.c (.bool false)))])
   (.ret)) (.skip)))
  (.seq (.seq (.reg [o 20 (.faddr 3 (.t 2)), o 21 (.load none (.t 20)), o 22 (.faddr 3 (.t 3)), o 23 (.load none (.t 22)), o 24 (.call 34 [(.t 21), (.t 23)]), o 25 (.un .not (.t 24))])
  (.cond (.t 25) (.seq (.reg [o 4 (.mv (.c (.bool false)))])
   (.ret)) (.skip)))
  (.seq (.reg [o 4 (.mv (.c (.bool true)))])
  (.ret)))))),
  [.tmp 4]⟩
/- loop.example/g03011/spec.l1New -/
def F92 : Fun := ⟨32,
  .seq (.reg [o 2 (.mv (.c .nptr))])
  (.seq (.reg [o 5 (.mv (.t 0)), o 6 (.lenL (.t 5)), o 7 (.bin .add (.c (.int .i64 193017)) (.t 6)), o 3 (.mv (.t 7))])
  (.seq (.seq (.reg [o 4 (.mv (.c (.int .i64 0)))])
  (.block 0 (.loop (.seq (.seq (.reg [o 8 (.mv (.t 4)), o 9 (.mv (.t 0)), o 10 (.lenL (.t 9)), o 11 (.bin .lss (.t 8) (.t 10)), o 12 (.mv (.t 11)), og 13 (.mv (.t 4)) 12 true, og 14 (.bin .lss (.t 13) (.c (.int .i64 4000))) 12 true, o 15 (.pick (.t 12) (.t 14) (.c (.bool false)))])
    (.cond (.t 15) (.skip) (.exit 0)))
    (.seq (.block 1 (.reg [o 18 (.mv (.t 3)), o 19 (.bin .mul (.t 18) (.c (.int .i64 137))), o 20 (.mv (.t 0)), o 21 (.mv (.t 4)), o 22 (.iaddr 1 (.t 20) (.t 21)), o 23 (.load none (.t 22)), o 24 (.toInt .i64 (.t 23)), o 25 (.bin .add (.t 19) (.t 24)), o 26 (.bin .add (.t 25) (.c (.int .i64 11))), o 27 (.bin .and (.t 26) (.c (.int .i64 1073741823))), o 3 (.mv (.t 27))]))
    (.reg [o 16 (.mv (.t 4)), o 17 (.bin .add (.t 16) (.c (.int .i64 1))), o 4 (.mv (.t 17))]))))))
  (.seq (.reg [o 28 (.mv (.t 0)), o 29 (.mv (.t 3)), o 30 (.build [.nsl, (.int .i64 0), (.int .i64 0)] [(0, 1, (.t 28)), (2, 1, (.t 29))]), o 31 (.box 3 (.t 30)), o 2 (.mv (.t 31))])
  (.ret)))),
  [.tmp 2]⟩
/- loop.example/g03011/spec.l37Draw -/
def F93 : Fun := ⟨71,
  .seq (.reg [o 2 (.mv (.c .nsl))])
  (.seq (.reg [o 5 (.bslice 4 [(.str []), (.str []), (.int .i64 0), (.int .i64 0)] 0 []), o 3 (.mv (.t 5))])
  (.seq (.seq (.reg [o 6 (.mv (.t 0)), o 7 (.call 105 [(.t 6), (.c (.int .i64 8))]), o 4 (.mv (.t 7))])
  (.block 0 (.loop (.seq (.seq (.reg [o 8 (.mv (.t 4)), o 9 (.bin .gtr (.t 8) (.c (.int .i64 0)))])
    (.cond (.t 9) (.skip) (.exit 0)))
    (.seq (.block 1 (.seq (.reg [o 12 (.mv (.t 0)), o 13 (.call 105 [(.t 12), (.c (.int .i64 3))])])
     (.block 2 (.seq (.reg [o 28 (.bin .eql (.t 13) (.c (.int .i64 0))), o 27 (.mv (.t 28))])
      (.cond (.t 27) (.reg [o 30 (.mv (.t 3)), o 31 (.mv (.t 0)), o 32 (.call 104 [(.t 31)]), o 33 (.mv (.t 0)), o 34 (.call 105 [(.t 33), (.c (.int .i64 2))]), o 35 (.bin .add (.c (.int .i64 1)) (.t 34)), o 36 (.mv (.t 0)), o 37 (.call 130 [(.t 36)]), o 38 (.mv (.t 0)), o 39 (.call 105 [(.t 38), (.c (.int .i64 30))]), o 40 (.call 39 [(.t 30), (.t 32), (.t 35), (.t 37), (.t 39)]), o 29 (.mv (.t 40)), o 41 (.extract (.t 29) 0), o 42 (.extract (.t 29) 1), o 3 (.mv (.t 41))]) (.reg [o 15 (.mv (.t 3)), o 16 (.mv (.t 0)), o 17 (.call 104 [(.t 16)]), o 18 (.mv (.t 0)), o 19 (.call 105 [(.t 18), (.c (.int .i64 3))]), o 20 (.bin .add (.c (.int .i64 1)) (.t 19)), o 21 (.mv (.t 0)), o 22 (.call 105 [(.t 21), (.c (.int .i64 30))]), o 23 (.call 64 [(.t 15), (.t 17), (.t 20), (.t 22)]), o 14 (.mv (.t 23)), o 24 (.extract (.t 14) 0), o 25 (.extract (.t 14) 1), o 26 (.extract (.t 14) 2), o 3 (.mv (.t 24))]))))))
    (.reg [o 10 (.mv (.t 4)), o 11 (.bin .sub (.t 10) (.c (.int .i64 1))), o 4 (.mv (.t 11))]))))))
  (.seq (.block 3 (.loop (.seq (.seq (.reg [o 43 (.mv (.t 0)), o 44 (.call 131 [(.t 43), (.c (.int .i64 12))]), o 45 (.mv (.t 44)), og 46 (.mv (.t 3)) 45 true, og 47 (.lenL (.t 46)) 45 true, og 48 (.bin .lss (.t 47) (.c (.int .i64 8))) 45 true, o 49 (.pick (.t 45) (.t 48) (.c (.bool false)))])
    (.cond (.t 49) (.skip) (.exit 3)))
    (.block 4 (.reg [o 50 (.mv (.t 3)), o 51 (.mv (.t 3)), o 52 (.lenL (.t 51)), o 53 (.call 132 [(.t 52)]), o 54 (.bin .add (.c (.str [122])) (.t 53)), o 55 (.build [(.str []), (.str []), (.int .i64 0), (.int .i64 0)] [(0, 1, (.t 54))]), o 56 (.bslice 4 [(.str []), (.str []), (.int .i64 0), (.int .i64 0)] 1 [(0, (.t 55))]), o 57 (.append 4 48 (.t 50) (.t 56)), o 3 (.mv (.t 57))])))))
  (.seq (.seq (.reg [o 58 (.mv (.t 0)), o 59 (.call 131 [(.t 58), (.c (.int .i64 12))]), o 60 (.mv (.t 59)), og 61 (.mv (.t 3)) 60 true, og 62 (.lenL (.t 61)) 60 true, og 63 (.bin .gtr (.t 62) (.c (.int .i64 0))) 60 true, o 64 (.pick (.t 60) (.t 63) (.c (.bool false)))])
  (.cond (.t 64) (.reg [o 65 (.mv (.t 3)), o 66 (.mv (.t 0)), o 67 (.call 133 [(.t 66)]), o 68 (.iaddr 4 (.t 65) (.c (.int .i64 0))), o 69 (.faddr 3 (.t 68)), st (.store 1 (.t 69) (.t 67))]) (.skip)))
  (.seq (.reg [o 70 (.mv (.t 3)), o 2 (.mv (.t 70))])
  (.ret)))))),
  [.tmp 2]⟩
/- loop.example/g03011/spec.l1Int -/
def F94 : Fun := ⟨12,
  .seq (.reg [o 4 (.mv (.c (.int .i64 0)))])
  (.seq (.reg [o 5 (.mv (.t 1)), o 6 (.mv (.t 0)), o 7 (.mv (.t 1)), o 8 (.lenL (.t 7)), o 9 (.call 105 [(.t 6), (.t 8)]), o 10 (.iaddr 1 (.t 5) (.t 9)), o 11 (.load none (.t 10)), o 4 (.mv (.t 11))])
  (.ret)),
  [.tmp 4]⟩
/- loop.example/g03011/laws.szPair -/
def F95 : Fun := ⟨20,
  .seq (.reg [o 2 (.box 2 (.t 0)), o 4 (.mv (.c (.int .i64 0)))])
  (.seq (.reg [o 5 (.mv (.t 1)), o 6 (.faddr 0 (.t 2)), o 7 (.load none (.t 6)), o 8 (.lenS (.t 7)), o 9 (.bin .sub (.t 5) (.t 8)), o 1 (.mv (.t 9))])
  (.seq (.seq (.reg [o 10 (.mv (.t 1)), o 11 (.bin .lss (.t 10) (.c (.int .i64 0)))])
  (.cond (.t 11) (.seq (.reg [o 4 (.mv (.c (.int .i64 (-1))))])
   (.ret)) (.skip)))
  (.seq (.reg [o 12 (.mv (.t 1)), o 13 (.faddr 1 (.t 2)), o 14 (.load none (.t 13)), o 15 (.lenS (.t 14)), o 16 (.bin .sub (.t 12) (.t 15)), o 1 (.mv (.t 16))])
  (.seq (.seq (.reg [o 17 (.mv (.t 1)), o 18 (.bin .lss (.t 17) (.c (.int .i64 0)))])
  (.cond (.t 18) (.seq (.reg [o 4 (.mv (.c (.int .i64 (-1))))])
   (.ret)) (.skip)))
  (.seq (.reg [o 19 (.mv (.t 1)), o 4 (.mv (.t 19))])
  (.ret)))))),
  [.tmp 4]⟩
/- loop.example/g03011/spec.l36Format -/
def F96 : Fun := ⟨35,
  .seq (.reg [o 4 (.mv (.c (.str [])))])
  (.seq (.reg [o 5 (.mv (.c (.str [])))])
  (.seq (.seq (.reg [o 6 (.mv (.c (.int .i64 0)))])
  (.block 0 (.loop (.seq (.seq (.reg [o 7 (.mv (.t 6)), o 8 (.mv (.t 0)), o 9 (.lenL (.t 8)), o 10 (.bin .lss (.t 7) (.t 9))])
    (.cond (.t 10) (.skip) (.exit 0)))
    (.seq (.block 1 (.seq (.seq (.reg [o 13 (.mv (.t 6)), o 14 (.bin .gtr (.t 13) (.c (.int .i64 0)))])
     (.cond (.t 14) (.reg [o 15 (.mv (.t 5)), o 16 (.mv (.t 1)), o 17 (.bin .add (.t 15) (.t 16)), o 5 (.mv (.t 17))]) (.skip)))
     (.reg [o 18 (.mv (.t 5)), o 19 (.mv (.t 0)), o 20 (.mv (.t 6)), o 21 (.iaddr 2 (.t 19) (.t 20)), o 22 (.faddr 0 (.t 21)), o 23 (.load none (.t 22)), o 24 (.callF 134 [(.t 23)]), o 25 (.bin .add (.t 18) (.t 24)), o 26 (.bin .add (.t 25) (.c (.str [61]))), o 27 (.mv (.t 0)), o 28 (.mv (.t 6)), o 29 (.iaddr 2 (.t 27) (.t 28)), o 30 (.faddr 1 (.t 29)), o 31 (.load none (.t 30)), o 32 (.callF 134 [(.t 31)]), o 33 (.bin .add (.t 26) (.t 32)), o 5 (.mv (.t 33))])))
    (.reg [o 11 (.mv (.t 6)), o 12 (.bin .add (.t 11) (.c (.int .i64 1))), o 6 (.mv (.t 12))]))))))
  (.seq (.reg [o 34 (.mv (.t 5)), o 4 (.mv (.t 34))])
  (.ret)))),
  [.tmp 4]⟩
/- loop.example/g03011/laws.toPair -/
def F97 : Fun := ⟨11,
  .seq (.reg [o 1 (.box 2 (.t 0)), o 2 (.new 2 [(.str []), (.str [])])])
  (.seq (.reg [o 3 (.new 2 [(.str []), (.str [])])])
  (.seq (.reg [o 4 (.faddr 0 (.t 1)), o 5 (.load none (.t 4)), o 6 (.faddr 0 (.t 3)), st (.store 1 (.t 6) (.t 5))])
  (.seq (.reg [o 7 (.faddr 1 (.t 1)), o 8 (.load none (.t 7)), o 9 (.faddr 1 (.t 3)), st (.store 1 (.t 9) (.t 8))])
  (.seq (.reg [o 10 (.load (some 2) (.t 3)), st (.store 2 (.t 2) (.t 10))])
  (.ret))))),
  [.cell 2 (some 2)]⟩
/- loop.example/g03011/impl.formatPairs -/
def F98 : Fun := ⟨30,
  .seq (.reg [o 4 (.mv (.c (.str [])))])
  (.seq (.reg [o 8 (.bslice 1 [(.str [])] 0 []), o 5 (.mv (.t 8))])
  (.seq (.seq (.reg [o 9 (.mv (.t 0)), o 10 (.lenL (.t 9)), o 11 (.mv (.c (.int .i64 0)))])
  (.block 0 (.loop (.seq (.reg [o 12 (.bin .lss (.t 11) (.t 10))])
    (.seq (.cond (.t 12) (.skip) (.exit 0))
    (.seq (.block 1 (.seq (.reg [o 13 (.iaddr 2 (.t 9) (.t 11)), o 14 (.load (some 2) (.t 13)), o 7 (.new 2 [(.str []), (.str [])]), st (.store 2 (.t 7) (.t 14))])
     (.reg [o 15 (.mv (.t 5)), o 16 (.faddr 0 (.t 7)), o 17 (.load none (.t 16)), o 18 (.callF 135 [(.t 17)]), o 19 (.bin .add (.t 18) (.c (.str [61]))), o 20 (.faddr 1 (.t 7)), o 21 (.load none (.t 20)), o 22 (.callF 135 [(.t 21)]), o 23 (.bin .add (.t 19) (.t 22)), o 24 (.bslice 1 [(.str [])] 1 [(0, (.t 23))]), o 25 (.append 1 16 (.t 15) (.t 24)), o 5 (.mv (.t 25))])))
    (.reg [o 26 (.bin .add (.t 11) (.c (.int .i64 1))), o 11 (.mv (.t 26))])))))))
  (.seq (.reg [o 27 (.mv (.t 5)), o 28 (.mv (.t 1)), o 29 (.call 136 [(.t 27), (.t 28)]), o 4 (.mv (.t 29))])
  (.ret)))),
  [.tmp 4]⟩
/- loop.example/g03011/laws.eqPair -/
def F99 : Fun := ⟨15,
  .seq (.reg [o 2 (.box 2 (.t 0)), o 3 (.box 2 (.t 1)), o 4 (.mv (.c (.bool false)))])
  (.seq (.seq (.reg [o 5 (.faddr 0 (.t 2)), o 6 (.load none (.t 5)), o 7 (.faddr 0 (.t 3)), o 8 (.load none (.t 7)), o 9 (.bin .neq (.t 6) (.t 8))])
  (.cond (.t 9) (.seq (.reg [o 4 (.mv (.c (.bool false)))])
   (.ret)) (.skip)))
  (.seq (.seq (.reg [o 10 (.faddr 1 (.t 2)), o 11 (.load none (.t 10)), o 12 (.faddr 1 (.t 3)), o 13 (.load none (.t 12)), o 14 (.bin .neq (.t 11) (.t 13))])
  (.cond (.t 14) (.seq (.reg [o 4 (.mv (.c (.bool false)))])
   (.ret)) (.skip)))
  (.seq (.reg [o 4 (.mv (.c (.bool true)))])
  (.ret)))),
  [.tmp 4]⟩
/- loop.example/g03011/spec.l34Copy -/
def F100 : Fun := ⟨30,
  .seq (.reg [o 2 (.mv (.c .nsl))])
  (.seq (.reg [o 6 (.bslice 4 [(.int .i64 0), (.int .i64 0), (.int .i64 0), .nsl] 0 []), o 3 (.mv (.t 6))])
  (.seq (.seq (.reg [o 4 (.mv (.c (.int .i64 0)))])
  (.block 0 (.loop (.seq (.seq (.reg [o 7 (.mv (.t 4)), o 8 (.mv (.t 0)), o 9 (.lenL (.t 8)), o 10 (.bin .lss (.t 7) (.t 9))])
    (.cond (.t 10) (.skip) (.exit 0)))
    (.seq (.block 1 (.seq (.reg [o 13 (.mv (.t 0)), o 14 (.mv (.t 4)), o 15 (.iaddr 4 (.t 13) (.t 14)), o 16 (.load (some 4) (.t 15)), o 5 (.new 4 [(.int .i64 0), (.int .i64 0), (.int .i64 0), .nsl]), st (.store 4 (.t 5) (.t 16))])
     (.seq (.reg [o 17 (.bslice 1 [(.int .i64 0)] 0 []), o 18 (.mv (.t 0)), o 19 (.mv (.t 4)), o 20 (.iaddr 4 (.t 18) (.t 19)), o 21 (.faddr 3 (.t 20)), o 22 (.load none (.t 21)), o 23 (.append 1 8 (.t 17) (.t 22)), o 24 (.faddr 3 (.t 5)), st (.store 1 (.t 24) (.t 23))])
     (.reg [o 25 (.mv (.t 3)), o 26 (.load (some 4) (.t 5)), o 27 (.bslice 4 [(.int .i64 0), (.int .i64 0), (.int .i64 0), .nsl] 1 [(0, (.t 26))]), o 28 (.append 4 48 (.t 25) (.t 27)), o 3 (.mv (.t 28))]))))
    (.reg [o 11 (.mv (.t 4)), o 12 (.bin .add (.t 11) (.c (.int .i64 1))), o 4 (.mv (.t 12))]))))))
  (.seq (.reg [o 29 (.mv (.t 3)), o 2 (.mv (.t 29))])
  (.ret)))),
  [.tmp 2]⟩
/- loop.example/g03011/impl.copyLines -/
def F101 : Fun := ⟨24,
  .seq (.reg [o 2 (.mv (.c .nsl))])
  (.seq (.reg [o 6 (.mv (.t 0)), o 7 (.call 137 [(.t 6)]), o 3 (.mv (.t 7))])
  (.seq (.seq (.reg [o 8 (.mv (.t 0)), o 9 (.lenL (.t 8)), o 10 (.mv (.c (.int .i64 0)))])
  (.block 0 (.loop (.seq (.reg [o 11 (.bin .lss (.t 10) (.t 9))])
    (.seq (.cond (.t 11) (.skip) (.exit 0))
    (.seq (.block 1 (.seq (.reg [o 12 (.mv (.t 10)), o 13 (.iaddr 4 (.t 8) (.t 10)), o 14 (.load (some 4) (.t 13)), o 5 (.new 4 [(.int .i64 0), (.int .i64 0), (.int .i64 0), .nsl]), o 4 (.mv (.t 12)), st (.store 4 (.t 5) (.t 14))])
     (.reg [o 15 (.mv (.t 3)), o 16 (.mv (.t 4)), o 17 (.faddr 3 (.t 5)), o 18 (.load none (.t 17)), o 19 (.call 90 [(.t 18)]), o 20 (.iaddr 4 (.t 15) (.t 16)), o 21 (.faddr 3 (.t 20)), st (.store 1 (.t 21) (.t 19))])))
    (.reg [o 22 (.bin .add (.t 10) (.c (.int .i64 1))), o 10 (.mv (.t 22))])))))))
  (.seq (.reg [o 23 (.mv (.t 3)), o 2 (.mv (.t 23))])
  (.ret)))),
  [.tmp 2]⟩
/- loop.example/g03011/spec.l34Recover -/
def F102 : Fun := ⟨28,
  .seq (.reg [o 4 (.mv (.c (.int .i64 0)))])
  (.block 0 (.loop (.seq (.seq (.reg [o 5 (.mv (.t 4)), o 6 (.mv (.t 0)), o 7 (.lenL (.t 6)), o 8 (.bin .lss (.t 5) (.t 7))])
    (.cond (.t 8) (.skip) (.exit 0)))
    (.seq (.block 1 (.seq (.reg [o 11 (.mv (.t 0)), o 12 (.mv (.t 4)), o 13 (.iaddr 4 (.t 11) (.t 12)), o 14 (.faddr 1 (.t 13)), o 15 (.load none (.t 14)), o 16 (.mv (.t 1)), o 17 (.bin .eql (.t 15) (.t 16))])
     (.cond (.t 17) (.reg [o 18 (.mv (.t 0)), o 19 (.mv (.t 4)), o 20 (.mv (.t 0)), o 21 (.mv (.t 4)), o 22 (.iaddr 4 (.t 20) (.t 21)), o 23 (.faddr 0 (.t 22)), o 24 (.load none (.t 23)), o 25 (.bin .add (.t 24) (.c (.int .i64 1))), o 26 (.build [(.int .i64 0), (.int .i64 0), (.int .i64 0), .nsl] [(0, 1, (.t 25))]), o 27 (.iaddr 4 (.t 18) (.t 19)), st (.store 4 (.t 27) (.t 26))]) (.skip))))
    (.reg [o 9 (.mv (.t 4)), o 10 (.bin .add (.t 9) (.c (.int .i64 1))), o 4 (.mv (.t 10))]))))),
  []⟩
/- loop.example/g03011/impl.recoverLines -/
def F103 : Fun := ⟨25,
  .seq (.reg [o 6 (.mv (.t 0)), o 7 (.lenL (.t 6)), o 8 (.mv (.c (.int .i64 0)))])
  (.block 0 (.loop (.seq (.reg [o 9 (.bin .lss (.t 8) (.t 7))])
    (.seq (.cond (.t 9) (.skip) (.exit 0))
    (.seq (.block 1 (.seq (.reg [o 10 (.mv (.t 8)), o 11 (.iaddr 4 (.t 6) (.t 8)), o 12 (.load (some 4) (.t 11)), o 5 (.new 4 [(.int .i64 0), (.int .i64 0), (.int .i64 0), .nsl]), o 4 (.mv (.t 10)), st (.store 4 (.t 5) (.t 12))])
     (.seq (.reg [o 13 (.faddr 1 (.t 5)), o 14 (.load none (.t 13)), o 15 (.mv (.t 1)), o 16 (.bin .eql (.t 14) (.t 15))])
     (.cond (.t 16) (.reg [o 17 (.mv (.t 0)), o 18 (.mv (.t 4)), o 19 (.faddr 0 (.t 5)), o 20 (.load none (.t 19)), o 21 (.bin .add (.t 20) (.c (.int .i64 1))), o 22 (.build [(.int .i64 0), (.int .i64 0), (.int .i64 0), .nsl] [(0, 1, (.t 21))]), o 23 (.iaddr 4 (.t 17) (.t 18)), st (.store 4 (.t 23) (.t 22))]) (.skip)))))
    (.reg [o 24 (.bin .add (.t 8) (.c (.int .i64 1))), o 8 (.mv (.t 24))])))))),
  []⟩
/- loop.example/g03011/spec.l37Id -/
def F104 : Fun := ⟨6,
  .seq (.reg [o 2 (.mv (.c (.str [])))])
  (.seq (.reg [o 3 (.mv (.t 0)), o 4 (.bslice 1 [(.str [])] 6 [(0, (.c (.str [117, 49]))), (1, (.c (.str [117, 50]))), (2, (.c (.str [117, 51]))), (3, (.c (.str []))), (4, (.c (.str [97, 32, 98]))), (5, (.c (.str [117, 52])))]), o 5 (.call 138 [(.t 3), (.t 4)]), o 2 (.mv (.t 5))])
  (.ret)),
  [.tmp 2]⟩
/- loop.example/g03011/spec.l1Below -/
def F105 : Fun := ⟨31,
  .seq (.reg [o 4 (.mv (.c (.int .i64 0)))])
  (.seq (.seq (.reg [o 8 (.mv (.t 1)), o 9 (.bin .leq (.t 8) (.c (.int .i64 0)))])
  (.cond (.t 9) (.seq (.reg [o 4 (.mv (.c (.int .i64 0)))])
   (.ret)) (.skip)))
  (.seq (.seq (.reg [o 10 (.mv (.t 1)), o 11 (.bin .leq (.t 10) (.c (.int .i64 256)))])
  (.cond (.t 11) (.seq (.reg [o 12 (.mv (.t 0)), o 13 (.call 139 [(.t 12)]), o 14 (.mv (.t 1)), o 15 (.bin .rem (.t 13) (.t 14)), o 4 (.mv (.t 15))])
   (.ret)) (.skip)))
  (.seq (.reg [o 16 (.mv (.t 0)), o 17 (.call 139 [(.t 16)]), o 5 (.mv (.t 17))])
  (.seq (.reg [o 18 (.mv (.t 0)), o 19 (.call 139 [(.t 18)]), o 6 (.mv (.t 19))])
  (.seq (.reg [o 20 (.mv (.t 0)), o 21 (.call 139 [(.t 20)]), o 7 (.mv (.t 21))])
  (.seq (.reg [o 22 (.mv (.t 5)), o 23 (.bin .mul (.t 22) (.c (.int .i64 65536))), o 24 (.mv (.t 6)), o 25 (.bin .mul (.t 24) (.c (.int .i64 256))), o 26 (.bin .add (.t 23) (.t 25)), o 27 (.mv (.t 7)), o 28 (.bin .add (.t 26) (.t 27)), o 29 (.mv (.t 1)), o 30 (.bin .rem (.t 28) (.t 29)), o 4 (.mv (.t 30))])
  (.ret))))))),
  [.tmp 4]⟩
/- slices.IndexFunc[[]loop.example/g03011/impl.Session,loop.example/g03011/impl.Session] -/
def F106 : Fun := ⟨19,
  .seq (.reg [o 4 (.mv (.c (.int .i64 0)))])
  (.seq (.seq (.reg [o 6 (.mv (.t 0)), o 7 (.lenL (.t 6)), o 8 (.mv (.c (.int .i64 0)))])
  (.block 0 (.loop (.seq (.reg [o 9 (.bin .lss (.t 8) (.t 7))])
    (.seq (.cond (.t 9) (.skip) (.exit 0))
    (.seq (.block 1 (.seq (.reg [o 10 (.mv (.t 8)), o 5 (.mv (.t 10))])
     (.seq (.reg [o 11 (.mv (.t 1)), o 12 (.mv (.t 0)), o 13 (.mv (.t 5)), o 14 (.iaddr 4 (.t 12) (.t 13)), o 15 (.load (some 4) (.t 14)), o 16 (.callv (.t 11) [(.t 15)])])
     (.cond (.t 16) (.seq (.reg [o 17 (.mv (.t 5)), o 4 (.mv (.t 17))])
      (.ret)) (.skip)))))
    (.reg [o 18 (.bin .add (.t 8) (.c (.int .i64 1))), o 8 (.mv (.t 18))])))))))
  (.seq (.reg [o 4 (.mv (.c (.int .i64 (-1))))])
  (.ret))),
  [.tmp 4]⟩
/- loop.example/g03011/impl.FindSession$1 -/
def F107 : Fun := ⟨8,
  .seq (.reg [o 2 (.box 4 (.t 0)), o 3 (.mv (.c (.bool false)))])
  (.seq (.reg [o 4 (.faddr 0 (.t 2)), o 5 (.load none (.t 4)), o 6 (.load none (.t 1)), o 7 (.bin .eql (.t 5) (.t 6)), o 3 (.mv (.t 7))])
  (.ret)),
  [.tmp 3]⟩
/- loop.example/g03011/laws.szHeaderS -/
def F108 : Fun := ⟨27,
  .seq (.reg [o 4 (.mv (.c (.int .i64 0)))])
  (.seq (.reg [o 6 (.mv (.t 1)), o 7 (.mv (.t 0)), o 8 (.lenL (.t 7)), o 9 (.bin .sub (.t 6) (.t 8)), o 1 (.mv (.t 9))])
  (.seq (.seq (.reg [o 10 (.mv (.t 1)), o 11 (.bin .lss (.t 10) (.c (.int .i64 0)))])
  (.cond (.t 11) (.seq (.reg [o 4 (.mv (.c (.int .i64 (-1))))])
   (.ret)) (.skip)))
  (.seq (.seq (.reg [o 5 (.mv (.c (.int .i64 0)))])
  (.block 0 (.loop (.seq (.seq (.reg [o 12 (.mv (.t 5)), o 13 (.mv (.t 0)), o 14 (.lenL (.t 13)), o 15 (.bin .lss (.t 12) (.t 14))])
    (.cond (.t 15) (.skip) (.exit 0)))
    (.seq (.block 1 (.seq (.reg [o 18 (.mv (.t 0)), o 19 (.mv (.t 5)), o 20 (.iaddr 2 (.t 18) (.t 19)), o 21 (.load (some 2) (.t 20)), o 22 (.mv (.t 1)), o 23 (.call 140 [(.t 21), (.t 22)]), o 1 (.mv (.t 23))])
     (.seq (.reg [o 24 (.mv (.t 1)), o 25 (.bin .lss (.t 24) (.c (.int .i64 0)))])
     (.cond (.t 25) (.seq (.reg [o 4 (.mv (.c (.int .i64 (-1))))])
      (.ret)) (.skip)))))
    (.reg [o 16 (.mv (.t 5)), o 17 (.bin .add (.t 16) (.c (.int .i64 1))), o 5 (.mv (.t 17))]))))))
  (.seq (.reg [o 26 (.mv (.t 1)), o 4 (.mv (.t 26))])
  (.ret))))),
  [.tmp 4]⟩
/- loop.example/g03011/spec.Reason -/
def F109 : Fun := ⟨14,
  .seq (.reg [o 2 (.mv (.c (.str [])))])
  (.seq (.seq (.reg [o 3 (.mv (.t 0))])
  (.block 0 (.seq (.reg [o 5 (.bin .eql (.t 3) (.c (.int .i64 200))), o 4 (.mv (.t 5))])
   (.cond (.t 4) (.seq (.reg [o 2 (.mv (.c (.str [79, 75])))])
    (.ret)) (.seq (.reg [o 7 (.bin .eql (.t 3) (.c (.int .i64 400))), o 6 (.mv (.t 7))])
    (.cond (.t 6) (.seq (.reg [o 2 (.mv (.c (.str [66, 97, 100, 32, 82, 101, 113, 117, 101, 115, 116])))])
     (.ret)) (.seq (.reg [o 9 (.bin .eql (.t 3) (.c (.int .i64 404))), o 8 (.mv (.t 9))])
     (.cond (.t 8) (.seq (.reg [o 2 (.mv (.c (.str [78, 111, 116, 32, 70, 111, 117, 110, 100])))])
      (.ret)) (.seq (.reg [o 11 (.bin .eql (.t 3) (.c (.int .i64 500))), o 10 (.mv (.t 11))])
      (.cond (.t 10) (.seq (.reg [o 2 (.mv (.c (.str [69, 114, 114, 111, 114])))])
       (.ret)) (.seq (.reg [o 13 (.bin .eql (.t 3) (.c (.int .i64 503))), o 12 (.mv (.t 13))])
       (.cond (.t 12) (.seq (.reg [o 2 (.mv (.c (.str [66, 117, 115, 121])))])
        (.ret)) (.skip)))))))))))))
  (.seq (.reg [o 2 (.mv (.c (.str [])))])
  (.ret))),
  [.tmp 2]⟩
/- loop.example/g03011/spec.IsOutput -/
def F110 : Fun := ⟨79,
  .seq (.reg [o 1 (.box 3 (.t 0)), o 2 (.mv (.c (.bool false)))])
  (.seq (.seq (.reg [o 6 (.load (some 3) (.t 1)), o 7 (.call 141 [(.t 6)]), o 8 (.bin .gtr (.t 7) (.c (.int .i64 3000))), o 9 (.mv (.t 8)), og 10 (.faddr 2 (.t 1)) 9 false, og 11 (.load none (.t 10)) 9 false, og 12 (.lenL (.t 11)) 9 false, og 13 (.bin .gtr (.t 12) (.c (.int .i64 5))) 9 false, o 14 (.pick (.t 9) (.c (.bool true)) (.t 13)), o 15 (.mv (.t 14)), og 16 (.faddr 1 (.t 1)) 15 false, og 17 (.load none (.t 16)) 15 false, og 18 (.lenL (.t 17)) 15 false, og 19 (.bin .gtr (.t 18) (.c (.int .i64 8))) 15 false, o 20 (.pick (.t 15) (.c (.bool true)) (.t 19))])
  (.cond (.t 20) (.seq (.reg [o 2 (.mv (.c (.bool false)))])
   (.ret)) (.skip)))
  (.seq (.seq (.reg [o 3 (.mv (.c (.int .i64 0)))])
  (.block 0 (.loop (.seq (.seq (.reg [o 21 (.mv (.t 3)), o 22 (.faddr 1 (.t 1)), o 23 (.load none (.t 22)), o 24 (.lenL (.t 23)), o 25 (.bin .lss (.t 21) (.t 24))])
    (.cond (.t 25) (.skip) (.exit 0)))
    (.seq (.block 1 (.seq (.seq (.reg [o 4 (.mv (.c (.int .i64 0)))])
     (.block 2 (.loop (.seq (.seq (.reg [o 28 (.mv (.t 4)), o 29 (.mv (.t 3)), o 30 (.bin .lss (.t 28) (.t 29))])
       (.cond (.t 30) (.skip) (.exit 2)))
       (.seq (.block 3 (.seq (.reg [o 33 (.faddr 1 (.t 1)), o 34 (.load none (.t 33)), o 35 (.mv (.t 4)), o 36 (.iaddr 2 (.t 34) (.t 35)), o 37 (.faddr 0 (.t 36)), o 38 (.load none (.t 37)), o 39 (.faddr 1 (.t 1)), o 40 (.load none (.t 39)), o 41 (.mv (.t 3)), o 42 (.iaddr 2 (.t 40) (.t 41)), o 43 (.faddr 0 (.t 42)), o 44 (.load none (.t 43)), o 45 (.bin .eql (.t 38) (.t 44))])
        (.cond (.t 45) (.seq (.reg [o 2 (.mv (.c (.bool false)))])
         (.ret)) (.skip))))
       (.reg [o 31 (.mv (.t 4)), o 32 (.bin .add (.t 31) (.c (.int .i64 1))), o 4 (.mv (.t 32))]))))))
     (.seq (.reg [o 46 (.faddr 1 (.t 1)), o 47 (.load none (.t 46)), o 48 (.mv (.t 3)), o 49 (.iaddr 2 (.t 47) (.t 48)), o 50 (.faddr 0 (.t 49)), o 51 (.load none (.t 50)), o 52 (.call 142 [(.t 51)]), o 53 (.un .not (.t 52)), o 54 (.mv (.t 53)), og 55 (.faddr 1 (.t 1)) 54 false, og 56 (.load none (.t 55)) 54 false, og 57 (.mv (.t 3)) 54 false, og 58 (.iaddr 2 (.t 56) (.t 57)) 54 false, og 59 (.faddr 1 (.t 58)) 54 false, og 60 (.load none (.t 59)) 54 false, og 61 (.call 143 [(.t 60)]) 54 false, og 62 (.un .not (.t 61)) 54 false, o 63 (.pick (.t 54) (.c (.bool true)) (.t 62))])
     (.cond (.t 63) (.seq (.reg [o 2 (.mv (.c (.bool false)))])
      (.ret)) (.skip)))))
    (.reg [o 26 (.mv (.t 3)), o 27 (.bin .add (.t 26) (.c (.int .i64 1))), o 3 (.mv (.t 27))]))))))
  (.seq (.seq (.reg [o 5 (.mv (.c (.int .i64 0)))])
  (.block 4 (.loop (.seq (.seq (.reg [o 64 (.mv (.t 5)), o 65 (.faddr 2 (.t 1)), o 66 (.load none (.t 65)), o 67 (.lenL (.t 66)), o 68 (.bin .lss (.t 64) (.t 67))])
    (.cond (.t 68) (.skip) (.exit 4)))
    (.seq (.block 5 (.seq (.reg [o 71 (.faddr 2 (.t 1)), o 72 (.load none (.t 71)), o 73 (.mv (.t 5)), o 74 (.iaddr 2 (.t 72) (.t 73)), o 75 (.faddr 0 (.t 74)), o 76 (.load none (.t 75)), o 77 (.call 80 [(.t 76), (.c (.int .i64 0)), (.c (.int .i64 3))]), o 78 (.un .not (.t 77))])
     (.cond (.t 78) (.seq (.reg [o 2 (.mv (.c (.bool false)))])
      (.ret)) (.skip))))
    (.reg [o 69 (.mv (.t 5)), o 70 (.bin .add (.t 69) (.c (.int .i64 1))), o 5 (.mv (.t 70))]))))))
  (.seq (.reg [o 2 (.mv (.c (.bool true)))])
  (.ret))))),
  [.tmp 2]⟩
/- loop.example/g03011/laws.toHeaderS -/
def F111 : Fun := ⟨23,
  .seq (.reg [o 2 (.mv (.c .nsl))])
  (.seq (.reg [o 5 (.mv (.t 0)), o 6 (.lenL (.t 5)), o 7 (.mkslice 2 [(.str []), (.str [])] 32 (.t 6) (.t 6)), o 3 (.mv (.t 7))])
  (.seq (.seq (.reg [o 4 (.mv (.c (.int .i64 0)))])
  (.block 0 (.loop (.seq (.seq (.reg [o 8 (.mv (.t 4)), o 9 (.mv (.t 0)), o 10 (.lenL (.t 9)), o 11 (.bin .lss (.t 8) (.t 10))])
    (.cond (.t 11) (.skip) (.exit 0)))
    (.seq (.block 1 (.reg [o 14 (.mv (.t 3)), o 15 (.mv (.t 4)), o 16 (.mv (.t 0)), o 17 (.mv (.t 4)), o 18 (.iaddr 2 (.t 16) (.t 17)), o 19 (.load (some 2) (.t 18)), o 20 (.call 144 [(.t 19)]), o 21 (.iaddr 2 (.t 14) (.t 15)), st (.store 2 (.t 21) (.t 20))]))
    (.reg [o 12 (.mv (.t 4)), o 13 (.bin .add (.t 12) (.c (.int .i64 1))), o 4 (.mv (.t 13))]))))))
  (.seq (.reg [o 22 (.mv (.t 3)), o 2 (.mv (.t 22))])
  (.ret)))),
  [.tmp 2]⟩
/- loop.example/g03011/impl.Reason -/
def F112 : Fun := ⟨14,
  .seq (.reg [o 2 (.mv (.c (.str [])))])
  (.seq (.seq (.reg [o 3 (.mv (.t 0))])
  (.block 0 (.seq (.reg [o 5 (.bin .eql (.t 3) (.c (.int .i64 200))), o 4 (.mv (.t 5))])
   (.cond (.t 4) (.seq (.reg [o 2 (.mv (.c (.str [79, 75])))])
    (.ret)) (.seq (.reg [o 7 (.bin .eql (.t 3) (.c (.int .i64 400))), o 6 (.mv (.t 7))])
    (.cond (.t 6) (.seq (.reg [o 2 (.mv (.c (.str [66, 97, 100, 32, 82, 101, 113, 117, 101, 115, 116])))])
     (.ret)) (.seq (.reg [o 9 (.bin .eql (.t 3) (.c (.int .i64 404))), o 8 (.mv (.t 9))])
     (.cond (.t 8) (.seq (.reg [o 2 (.mv (.c (.str [78, 111, 116, 32, 70, 111, 117, 110, 100])))])
      (.ret)) (.seq (.reg [o 11 (.bin .eql (.t 3) (.c (.int .i64 500))), o 10 (.mv (.t 11))])
      (.cond (.t 10) (.seq (.reg [o 2 (.mv (.c (.str [69, 114, 114, 111, 114])))])
       (.ret)) (.seq (.reg [o 13 (.bin .eql (.t 3) (.c (.int .i64 503))), o 12 (.mv (.t 13))])
       (.cond (.t 12) (.seq (.reg [o 2 (.mv (.c (.str [66, 117, 115, 121])))])
        (.ret)) (.skip)))))))))))))
  (.seq (.reg [o 2 (.mv (.c (.str [])))])
  (.ret))),
  [.tmp 2]⟩
/- loop.example/g03011/impl.IsOutput -/
def F113 : Fun := ⟨63,
  .seq (.reg [o 1 (.box 3 (.t 0)), o 2 (.mv (.c (.bool false)))])
  (.seq (.seq (.reg [o 8 (.load (some 3) (.t 1)), o 9 (.call 145 [(.t 8)]), o 10 (.bin .gtr (.t 9) (.c (.int .i64 3000))), o 11 (.mv (.t 10)), og 12 (.faddr 2 (.t 1)) 11 false, og 13 (.load none (.t 12)) 11 false, og 14 (.lenL (.t 13)) 11 false, og 15 (.bin .gtr (.t 14) (.c (.int .i64 5))) 11 false, o 16 (.pick (.t 11) (.c (.bool true)) (.t 15)), o 17 (.mv (.t 16)), og 18 (.faddr 1 (.t 1)) 17 false, og 19 (.load none (.t 18)) 17 false, og 20 (.lenL (.t 19)) 17 false, og 21 (.bin .gtr (.t 20) (.c (.int .i64 8))) 17 false, o 22 (.pick (.t 17) (.c (.bool true)) (.t 21))])
  (.cond (.t 22) (.seq (.reg [o 2 (.mv (.c (.bool false)))])
   (.ret)) (.skip)))
  (.seq (.seq (.reg [o 23 (.faddr 2 (.t 1)), o 24 (.load none (.t 23)), o 25 (.lenL (.t 24)), o 26 (.mv (.c (.int .i64 0)))])
  (.block 0 (.loop (.seq (.reg [o 27 (.bin .lss (.t 26) (.t 25))])
    (.seq (.cond (.t 27) (.skip) (.exit 0))
    (.seq (.block 1 (.seq (.reg [o 28 (.iaddr 2 (.t 24) (.t 26)), o 29 (.load (some 2) (.t 28)), o 4 (.new 2 [(.int .i64 0), (.str [])]), st (.store 2 (.t 4) (.t 29))])
     (.seq (.reg [o 30 (.faddr 0 (.t 4)), o 31 (.load none (.t 30)), o 32 (.call 83 [(.t 31), (.c (.int .i64 0)), (.c (.int .i64 3))]), o 33 (.un .not (.t 32))])
     (.cond (.t 33) (.seq (.reg [o 2 (.mv (.c (.bool false)))])
      (.ret)) (.skip)))))
    (.reg [o 34 (.bin .add (.t 26) (.c (.int .i64 1))), o 26 (.mv (.t 34))])))))))
  (.seq (.reg [o 35 (.mkmap), o 5 (.mv (.t 35))])
  (.seq (.seq (.reg [o 36 (.faddr 1 (.t 1)), o 37 (.load none (.t 36)), o 38 (.lenL (.t 37)), o 39 (.mv (.c (.int .i64 0)))])
  (.block 2 (.loop (.seq (.reg [o 40 (.bin .lss (.t 39) (.t 38))])
    (.seq (.cond (.t 40) (.skip) (.exit 2))
    (.seq (.block 3 (.seq (.reg [o 41 (.iaddr 2 (.t 37) (.t 39)), o 42 (.load (some 2) (.t 41)), o 7 (.new 2 [(.str []), (.str [])]), st (.store 2 (.t 7) (.t 42))])
     (.seq (.seq (.reg [o 43 (.mv (.t 5)), o 44 (.faddr 0 (.t 7)), o 45 (.load none (.t 44)), o 46 (.lookup 1 (.bool false) false (.t 43) (.t 45)), o 47 (.mv (.t 46)), og 48 (.faddr 0 (.t 7)) 47 false, og 49 (.load none (.t 48)) 47 false, og 50 (.call 146 [(.t 49)]) 47 false, og 51 (.un .not (.t 50)) 47 false, o 52 (.pick (.t 47) (.c (.bool true)) (.t 51)), o 53 (.mv (.t 52)), og 54 (.faddr 1 (.t 7)) 53 false, og 55 (.load none (.t 54)) 53 false, og 56 (.call 147 [(.t 55)]) 53 false, og 57 (.un .not (.t 56)) 53 false, o 58 (.pick (.t 53) (.c (.bool true)) (.t 57))])
     (.cond (.t 58) (.seq (.reg [o 2 (.mv (.c (.bool false)))])
      (.ret)) (.skip)))
     (.reg [o 59 (.mv (.t 5)), o 60 (.faddr 0 (.t 7)), o 61 (.load none (.t 60)), st (.mupd 1 (.t 59) (.t 61) (.c (.bool true)))]))))
    (.reg [o 62 (.bin .add (.t 39) (.c (.int .i64 1))), o 39 (.mv (.t 62))])))))))
  (.seq (.reg [o 2 (.mv (.c (.bool true)))])
  (.ret)))))),
  [.tmp 2]⟩
/- loop.example/g03011/laws.eqHeaderS -/
def F114 : Fun := ⟨27,
  .seq (.reg [o 4 (.mv (.c (.bool false)))])
  (.seq (.seq (.reg [o 6 (.mv (.t 0)), o 7 (.lenL (.t 6)), o 8 (.mv (.t 1)), o 9 (.lenL (.t 8)), o 10 (.bin .neq (.t 7) (.t 9))])
  (.cond (.t 10) (.seq (.reg [o 4 (.mv (.c (.bool false)))])
   (.ret)) (.skip)))
  (.seq (.seq (.reg [o 5 (.mv (.c (.int .i64 0)))])
  (.block 0 (.loop (.seq (.seq (.reg [o 11 (.mv (.t 5)), o 12 (.mv (.t 0)), o 13 (.lenL (.t 12)), o 14 (.bin .lss (.t 11) (.t 13))])
    (.cond (.t 14) (.skip) (.exit 0)))
    (.seq (.block 1 (.seq (.reg [o 17 (.mv (.t 0)), o 18 (.mv (.t 5)), o 19 (.iaddr 2 (.t 17) (.t 18)), o 20 (.load (some 2) (.t 19)), o 21 (.mv (.t 1)), o 22 (.mv (.t 5)), o 23 (.iaddr 2 (.t 21) (.t 22)), o 24 (.load (some 2) (.t 23)), o 25 (.callF 148 [(.t 20), (.t 24)]), o 26 (.un .not (.t 25))])
     (.cond (.t 26) (.seq (.reg [o 4 (.mv (.c (.bool false)))])
      (.ret)) (.skip))))
    (.reg [o 15 (.mv (.t 5)), o 16 (.bin .add (.t 15) (.c (.int .i64 1))), o 5 (.mv (.t 16))]))))))
  (.seq (.reg [o 4 (.mv (.c (.bool true)))])
  (.ret)))),
  [.tmp 4]⟩
/- loop.example/g03011/spec.l34Draw -/
def F115 : Fun := ⟨35,
  .seq (.reg [o 2 (.mv (.c .nsl))])
  (.seq (.reg [o 6 (.bslice 4 [(.int .i64 0), (.int .i64 0), (.int .i64 0), .nsl] 0 []), o 3 (.mv (.t 6))])
  (.seq (.seq (.reg [o 7 (.mv (.t 0)), o 8 (.call 105 [(.t 7), (.c (.int .i64 3))]), o 9 (.bin .add (.c (.int .i64 1)) (.t 8)), o 4 (.mv (.t 9))])
  (.block 0 (.loop (.seq (.seq (.reg [o 10 (.mv (.t 4)), o 11 (.bin .gtr (.t 10) (.c (.int .i64 0)))])
    (.cond (.t 11) (.skip) (.exit 0)))
    (.seq (.block 1 (.seq (.reg [o 14 (.mv (.t 0)), o 15 (.call 105 [(.t 14), (.c (.int .i64 4))]), o 16 (.bin .mul (.c (.int .i64 2)) (.t 15)), o 17 (.build [(.int .i64 0), (.int .i64 0), (.int .i64 0), .nsl] [(0, 1, (.t 16))]), o 5 (.new 4 [(.int .i64 0), (.int .i64 0), (.int .i64 0), .nsl]), st (.store 4 (.t 5) (.t 17))])
     (.seq (.seq (.reg [o 18 (.mv (.t 0)), o 19 (.call 131 [(.t 18), (.c (.int .i64 2))])])
     (.cond (.t 19) (.seq (.reg [o 20 (.mv (.t 0)), o 21 (.call 105 [(.t 20), (.c (.int .i64 3))]), o 22 (.bin .add (.c (.int .i64 1)) (.t 21)), o 23 (.faddr 2 (.t 5)), st (.store 1 (.t 23) (.t 22))])
      (.reg [o 24 (.mv (.t 0)), o 25 (.call 105 [(.t 24), (.c (.int .i64 9))]), o 26 (.mv (.t 0)), o 27 (.call 105 [(.t 26), (.c (.int .i64 9))]), o 28 (.bslice 1 [(.int .i64 0)] 3 [(0, (.t 25)), (1, (.t 27)), (2, (.c (.int .i64 7)))]), o 29 (.faddr 3 (.t 5)), st (.store 1 (.t 29) (.t 28))])) (.skip)))
     (.reg [o 30 (.mv (.t 3)), o 31 (.load (some 4) (.t 5)), o 32 (.bslice 4 [(.int .i64 0), (.int .i64 0), (.int .i64 0), .nsl] 1 [(0, (.t 31))]), o 33 (.append 4 48 (.t 30) (.t 32)), o 3 (.mv (.t 33))]))))
    (.reg [o 12 (.mv (.t 4)), o 13 (.bin .sub (.t 12) (.c (.int .i64 1))), o 4 (.mv (.t 13))]))))))
  (.seq (.reg [o 34 (.mv (.t 3)), o 2 (.mv (.t 34))])
  (.ret)))),
  [.tmp 2]⟩
/- loop.example/g03011/spec.l34Cast -/
def F116 : Fun := ⟨45,
  .seq (.reg [o 2 (.mv (.c .nsl))])
  (.seq (.reg [o 7 (.bslice 7 [(.bool false), (.int .i64 0), (.int .i64 0), .nsl, (.int .i64 0), (.int .i64 0), (.int .i64 0)] 0 []), o 3 (.mv (.t 7))])
  (.seq (.seq (.reg [o 8 (.mv (.t 0)), o 9 (.call 105 [(.t 8), (.c (.int .i64 4))]), o 10 (.bin .add (.c (.int .i64 2)) (.t 9)), o 4 (.mv (.t 10))])
  (.block 0 (.loop (.seq (.seq (.reg [o 11 (.mv (.t 4)), o 12 (.bin .gtr (.t 11) (.c (.int .i64 0)))])
    (.cond (.t 12) (.skip) (.exit 0)))
    (.seq (.block 1 (.seq (.reg [o 15 (.mv (.t 0)), o 16 (.call 105 [(.t 15), (.c (.int .i64 2))]), o 17 (.mv (.t 0)), o 18 (.call 105 [(.t 17), (.c (.int .i64 3))]), o 19 (.bin .add (.c (.int .i64 1)) (.t 18)), o 20 (.mv (.t 0)), o 21 (.call 131 [(.t 20), (.c (.int .i64 2))]), o 22 (.build [(.bool false), (.int .i64 0), (.int .i64 0), .nsl, (.int .i64 0), (.int .i64 0), (.int .i64 0)] [(1, 1, (.t 16)), (2, 1, (.t 19)), (0, 1, (.t 21))]), o 5 (.new 7 [(.bool false), (.int .i64 0), (.int .i64 0), .nsl, (.int .i64 0), (.int .i64 0), (.int .i64 0)]), st (.store 7 (.t 5) (.t 22))])
     (.seq (.seq (.reg [o 23 (.mv (.t 0)), o 24 (.call 105 [(.t 23), (.c (.int .i64 6))]), o 6 (.mv (.t 24))])
     (.block 2 (.loop (.seq (.seq (.reg [o 25 (.faddr 0 (.t 5)), o 26 (.load none (.t 25)), o 27 (.mv (.t 26)), og 28 (.mv (.t 6)) 27 true, og 29 (.bin .gtr (.t 28) (.c (.int .i64 0))) 27 true, o 30 (.pick (.t 27) (.t 29) (.c (.bool false)))])
       (.cond (.t 30) (.skip) (.exit 2)))
       (.seq (.block 3 (.reg [o 33 (.faddr 3 (.t 5)), o 34 (.load none (.t 33)), o 35 (.mv (.t 0)), o 36 (.call 105 [(.t 35), (.c (.int .i64 99))]), st (.chk none (.t 33) (.t 34)), o 37 (.bslice 1 [(.int .i64 0)] 1 [(0, (.t 36))]), st (.chk none (.t 33) (.t 34)), o 38 (.append 1 8 (.t 34) (.t 37)), o 39 (.faddr 3 (.t 5)), st (.store 1 (.t 39) (.t 38))]))
       (.reg [o 31 (.mv (.t 6)), o 32 (.bin .sub (.t 31) (.c (.int .i64 1))), o 6 (.mv (.t 32))]))))))
     (.reg [o 40 (.mv (.t 3)), o 41 (.load (some 7) (.t 5)), o 42 (.bslice 7 [(.bool false), (.int .i64 0), (.int .i64 0), .nsl, (.int .i64 0), (.int .i64 0), (.int .i64 0)] 1 [(0, (.t 41))]), o 43 (.append 7 72 (.t 40) (.t 42)), o 3 (.mv (.t 43))]))))
    (.reg [o 13 (.mv (.t 4)), o 14 (.bin .sub (.t 13) (.c (.int .i64 1))), o 4 (.mv (.t 14))]))))))
  (.seq (.reg [o 44 (.mv (.t 3)), o 2 (.mv (.t 44))])
  (.ret)))),
  [.tmp 2]⟩
/- loop.example/g03011/spec.l34Order -/
def F117 : Fun := ⟨26,
  .seq (.reg [o 2 (.mv (.c .nsl))])
  (.seq (.reg [o 5 (.bslice 1 [(.int .i64 0)] 0 []), o 3 (.mv (.t 5))])
  (.seq (.seq (.reg [o 6 (.mv (.t 0)), o 7 (.call 105 [(.t 6), (.c (.int .i64 80))]), o 4 (.mv (.t 7))])
  (.block 0 (.loop (.seq (.seq (.reg [o 8 (.mv (.t 4)), o 9 (.bin .gtr (.t 8) (.c (.int .i64 0)))])
    (.cond (.t 9) (.skip) (.exit 0)))
    (.seq (.block 1 (.seq (.reg [o 12 (.mv (.t 3)), o 13 (.mv (.t 0)), o 14 (.call 105 [(.t 13), (.c (.int .i64 6))]), o 15 (.bslice 1 [(.int .i64 0)] 1 [(0, (.t 14))]), o 16 (.append 1 8 (.t 12) (.t 15)), o 3 (.mv (.t 16))])
     (.seq (.reg [o 17 (.mv (.t 0)), o 18 (.call 131 [(.t 17), (.c (.int .i64 30))])])
     (.cond (.t 18) (.reg [o 19 (.mv (.t 3)), o 20 (.mv (.t 0)), o 21 (.call 105 [(.t 20), (.c (.int .i64 6))]), o 22 (.bin .sub (.c (.int .i64 (-1))) (.t 21)), o 23 (.bslice 1 [(.int .i64 0)] 1 [(0, (.t 22))]), o 24 (.append 1 8 (.t 19) (.t 23)), o 3 (.mv (.t 24))]) (.skip)))))
    (.reg [o 10 (.mv (.t 4)), o 11 (.bin .sub (.t 10) (.c (.int .i64 1))), o 4 (.mv (.t 11))]))))))
  (.seq (.reg [o 25 (.mv (.t 3)), o 2 (.mv (.t 25))])
  (.ret)))),
  [.tmp 2]⟩
/- slices.Clone[[]loop.example/g03011/impl.Actor,loop.example/g03011/impl.Actor] -/
def F118 : Fun := ⟨8,
  .seq (.reg [o 2 (.mv (.c .nsl))])
  (.seq (.seq (.reg [o 3 (.mv (.t 0)), o 4 (.isnl false (.t 3))])
  (.cond (.t 4) (.seq (.reg [o 2 (.mv (.c .nsl))])
   (.ret)) (.skip)))
  (.seq (.reg [o 5 (.bslice 7 [(.bool false), (.int .i64 0), (.int .i64 0), .nsl, (.int .i64 0), (.int .i64 0), (.int .i64 0)] 0 []), o 6 (.mv (.t 0)), o 7 (.append 7 72 (.t 5) (.t 6)), o 2 (.mv (.t 7))])
  (.ret))),
  [.tmp 2]⟩
/- loop.example/g03011/impl.AreActors -/
def F119 : Fun := ⟨57,
  .seq (.reg [o 2 (.mv (.c (.bool false)))])
  (.seq (.seq (.reg [o 5 (.mv (.t 0)), o 6 (.lenL (.t 5)), o 7 (.mv (.c (.int .i64 0)))])
  (.block 0 (.loop (.seq (.reg [o 8 (.bin .lss (.t 7) (.t 6))])
    (.seq (.cond (.t 8) (.skip) (.exit 0))
    (.seq (.block 1 (.seq (.reg [o 9 (.iaddr 7 (.t 5) (.t 7)), o 10 (.load (some 7) (.t 9)), o 4 (.new 7 [(.bool false), (.int .i64 0), (.int .i64 0), .nsl, (.int .i64 0), (.int .i64 0), (.int .i64 0)]), st (.store 7 (.t 4) (.t 10))])
     (.seq (.reg [o 11 (.faddr 1 (.t 4)), o 12 (.load none (.t 11)), o 13 (.call 83 [(.t 12), (.c (.int .i64 0)), (.c (.int .i64 7))]), o 14 (.un .not (.t 13)), o 15 (.mv (.t 14)), og 16 (.faddr 2 (.t 4)) 15 false, og 17 (.load none (.t 16)) 15 false, og 18 (.call 83 [(.t 17), (.c (.int .i64 1)), (.c (.int .i64 1000000000000))]) 15 false, og 19 (.un .not (.t 18)) 15 false, o 20 (.pick (.t 15) (.c (.bool true)) (.t 19)), o 21 (.mv (.t 20)), og 22 (.faddr 3 (.t 4)) 21 false, og 23 (.load none (.t 22)) 21 false, og 24 (.lenL (.t 23)) 21 false, og 25 (.bin .gtr (.t 24) (.c (.int .i64 4100))) 21 false, o 26 (.pick (.t 21) (.c (.bool true)) (.t 25)), o 27 (.mv (.t 26)), og 28 (.faddr 0 (.t 4)) 27 false, og 29 (.load none (.t 28)) 27 false, og 30 (.un .not (.t 29)) 27 false, og 31 (.mv (.t 30)) 27 false, og 32 (.faddr 3 (.t 4)) 31 true, og 33 (.load none (.t 32)) 31 true, og 34 (.lenL (.t 33)) 31 true, og 35 (.bin .gtr (.t 34) (.c (.int .i64 0))) 31 true, og 36 (.pick (.t 31) (.t 35) (.c (.bool false))) 27 false, o 37 (.pick (.t 27) (.c (.bool true)) (.t 36)), o 38 (.mv (.t 37)), og 39 (.faddr 4 (.t 4)) 38 false, og 40 (.load none (.t 39)) 38 false, og 41 (.bin .neq (.t 40) (.c (.int .i64 0))) 38 false, o 42 (.pick (.t 38) (.c (.bool true)) (.t 41)), o 43 (.mv (.t 42)), og 44 (.faddr 5 (.t 4)) 43 false, og 45 (.load none (.t 44)) 43 false, og 46 (.bin .neq (.t 45) (.c (.int .i64 0))) 43 false, o 47 (.pick (.t 43) (.c (.bool true)) (.t 46)), o 48 (.mv (.t 47)), og 49 (.faddr 6 (.t 4)) 48 false, og 50 (.load none (.t 49)) 48 false, og 51 (.bin .neq (.t 50) (.c (.int .i64 0))) 48 false, o 52 (.pick (.t 48) (.c (.bool true)) (.t 51))])
     (.cond (.t 52) (.seq (.reg [o 2 (.mv (.c (.bool false)))])
      (.ret)) (.skip)))))
    (.reg [o 53 (.bin .add (.t 7) (.c (.int .i64 1))), o 7 (.mv (.t 53))])))))))
  (.seq (.reg [o 54 (.mv (.t 0)), o 55 (.lenL (.t 54)), o 56 (.bin .leq (.t 55) (.c (.int .i64 8))), o 2 (.mv (.t 56))])
  (.ret))),
  [.tmp 2]⟩
/- loop.example/g03011/impl.accessLine -/
def F120 : Fun := ⟨106,
  .seq (.reg [o 8 (.mv (.t 1)), o 9 (.mv (.t 2)), o 10 (.iaddr 7 (.t 8) (.t 9)), o 6 (.mv (.t 10))])
  (.seq (.seq (.reg [o 11 (.mv (.t 6)), o 12 (.nilck (.t 11)), o 13 (.faddr 4 (.t 12)), o 14 (.load none (.t 13)), o 15 (.bin .neq (.t 14) (.c (.int .i64 0))), o 16 (.mv (.t 15)), og 17 (.mv (.t 6)) 16 true, og 18 (.nilck (.t 17)) 16 true, og 19 (.faddr 4 (.t 18)) 16 true, og 20 (.load none (.t 19)) 16 true, og 21 (.bin .neq (.t 20) (.c (.int .i64 1))) 16 true, o 22 (.pick (.t 16) (.t 21) (.c (.bool false))), o 23 (.mv (.t 22)), og 24 (.mv (.t 6)) 23 false, og 25 (.nilck (.t 24)) 23 false, og 26 (.faddr 1 (.t 25)) 23 false, og 27 (.load none (.t 26)) 23 false, og 28 (.mv (.t 0)) 23 false, og 29 (.lenL (.t 28)) 23 false, og 30 (.bin .geq (.t 27) (.t 29)) 23 false, o 31 (.pick (.t 23) (.c (.bool true)) (.t 30))])
  (.cond (.t 31) (.ret) (.skip)))
  (.seq (.reg [o 32 (.mv (.t 0)), o 33 (.mv (.t 6)), o 34 (.nilck (.t 33)), o 35 (.faddr 1 (.t 34)), o 36 (.load none (.t 35)), o 37 (.iaddr 4 (.t 32) (.t 36)), o 7 (.mv (.t 37))])
  (.block 0 (.seq (.reg [o 42 (.mv (.t 6)), o 43 (.nilck (.t 42)), o 44 (.faddr 4 (.t 43)), o 45 (.load none (.t 44)), o 46 (.bin .eql (.t 45) (.c (.int .i64 0))), o 47 (.mv (.t 46)), og 48 (.mv (.t 7)) 47 true, og 49 (.nilck (.t 48)) 47 true, og 50 (.faddr 0 (.t 49)) 47 true, og 51 (.load none (.t 50)) 47 true, og 52 (.bin .rem (.t 51) (.c (.int .i64 2))) 47 true, og 53 (.bin .eql (.t 52) (.c (.int .i64 1))) 47 true, o 54 (.pick (.t 47) (.t 53) (.c (.bool false))), o 41 (.mv (.t 54))])
   (.cond (.t 41) (.seq (.reg [o 55 (.mv (.t 6)), o 56 (.nilck (.t 55)), o 57 (.faddr 0 (.t 56)), o 58 (.load none (.t 57)), o 59 (.un .not (.t 58))])
    (.cond (.t 59) (.reg [o 60 (.mv (.t 6)), o 61 (.nilck (.t 60)), o 62 (.faddr 4 (.t 61)), st (.store 1 (.t 62) (.c (.int .i64 3)))]) (.skip))) (.seq (.reg [o 64 (.mv (.t 6)), o 65 (.nilck (.t 64)), o 66 (.faddr 4 (.t 65)), o 67 (.load none (.t 66)), o 68 (.bin .eql (.t 67) (.c (.int .i64 0))), o 63 (.mv (.t 68))])
    (.cond (.t 63) (.seq (.reg [o 69 (.mv (.t 6)), o 70 (.nilck (.t 69)), o 71 (.faddr 4 (.t 70)), st (.store 1 (.t 71) (.c (.int .i64 1)))])
     (.seq (.reg [o 72 (.mv (.t 6)), o 73 (.nilck (.t 72)), o 74 (.faddr 5 (.t 73)), st (.store 1 (.t 74) (.c (.int .i64 0)))])
     (.seq (.reg [o 75 (.mv (.t 6)), o 76 (.nilck (.t 75)), o 77 (.faddr 0 (.t 76)), o 78 (.load none (.t 77))])
     (.cond (.t 78) (.seq (.reg [o 79 (.mv (.t 7)), o 80 (.nilck (.t 79)), o 81 (.faddr 0 (.t 80)), o 82 (.load none (.t 81)), o 83 (.bin .add (.t 82) (.c (.int .i64 1))), o 84 (.nilck (.t 79)), o 85 (.faddr 0 (.t 84)), st (.store 1 (.t 85) (.t 83))])
      (.reg [o 86 (.mv (.t 7)), o 87 (.mv (.t 2)), o 88 (.bin .add (.t 87) (.c (.int .i64 1))), o 89 (.nilck (.t 86)), o 90 (.faddr 1 (.t 89)), st (.store 1 (.t 90) (.t 88))])) (.reg [o 91 (.mv (.t 6)), o 92 (.mv (.t 7)), o 93 (.nilck (.t 92)), o 94 (.faddr 0 (.t 93)), o 95 (.load none (.t 94)), o 96 (.nilck (.t 91)), o 97 (.faddr 6 (.t 96)), st (.store 1 (.t 97) (.t 95))]))))) (.seq (.reg [o 99 (.mv (.t 6)), o 100 (.nilck (.t 99)), o 101 (.faddr 0 (.t 100)), o 102 (.load none (.t 101)), o 98 (.mv (.t 102))])
     (.cond (.t 98) (.reg [o 103 (.mv (.t 7)), o 104 (.mv (.t 6)), o 105 (.call 149 [(.t 103), (.t 104)])]) (.reg [o 38 (.mv (.t 7)), o 39 (.mv (.t 6)), o 40 (.call 150 [(.t 38), (.t 39)])])))))))))),
  []⟩
/- loop.example/g03011/spec.RunActors -/
def F121 : Fun := ⟨80,
  .seq (.reg [o 6 (.mv (.c .nsl)), o 7 (.mv (.c .nsl))])
  (.seq (.reg [o 12 (.mv (.t 0)), o 13 (.call 100 [(.t 12)]), o 8 (.mv (.t 13))])
  (.seq (.reg [o 14 (.mv (.t 1)), o 15 (.call 151 [(.t 14)]), o 9 (.mv (.t 15))])
  (.seq (.seq (.reg [o 16 (.mv (.t 0)), o 17 (.call 67 [(.t 16)]), o 18 (.un .not (.t 17)), o 19 (.mv (.t 18)), og 20 (.mv (.t 1)) 19 false, og 21 (.call 68 [(.t 20)]) 19 false, og 22 (.un .not (.t 21)) 19 false, o 23 (.pick (.t 19) (.c (.bool true)) (.t 22))])
  (.cond (.t 23) (.seq (.reg [o 24 (.mv (.t 8)), o 25 (.mv (.t 9)), o 6 (.mv (.t 24)), o 7 (.mv (.t 25))])
   (.ret)) (.skip)))
  (.seq (.seq (.reg [o 10 (.mv (.c (.int .i64 0)))])
  (.block 0 (.loop (.seq (.seq (.reg [o 26 (.mv (.t 10)), o 27 (.mv (.t 2)), o 28 (.lenL (.t 27)), o 29 (.bin .lss (.t 26) (.t 28)), o 30 (.mv (.t 29)), og 31 (.mv (.t 1)) 30 true, og 32 (.lenL (.t 31)) 30 true, og 33 (.bin .gtr (.t 32) (.c (.int .i64 0))) 30 true, o 34 (.pick (.t 30) (.t 33) (.c (.bool false)))])
    (.cond (.t 34) (.skip) (.exit 0)))
    (.seq (.block 1 (.seq (.reg [o 37 (.mv (.t 2)), o 38 (.mv (.t 10)), o 39 (.iaddr 1 (.t 37) (.t 38)), o 40 (.load none (.t 39)), o 11 (.mv (.t 40))])
     (.seq (.seq (.reg [o 41 (.mv (.t 11)), o 42 (.bin .geq (.t 41) (.c (.int .i64 0)))])
     (.cond (.t 42) (.seq (.reg [o 43 (.mv (.t 8)), o 44 (.mv (.t 9)), o 45 (.mv (.t 11)), o 46 (.mv (.t 1)), o 47 (.lenL (.t 46)), o 48 (.bin .rem (.t 45) (.t 47)), o 49 (.call 152 [(.t 43), (.t 44), (.t 48)])])
      (.exit 1)) (.skip)))
     (.seq (.reg [o 50 (.mv (.t 11)), o 51 (.bin .add (.t 50) (.c (.int .i64 1))), o 52 (.un .neg (.t 51)), o 53 (.mv (.t 1)), o 54 (.lenL (.t 53)), o 55 (.bin .rem (.t 52) (.t 54)), o 11 (.mv (.t 55))])
     (.seq (.seq (.reg [o 56 (.mv (.t 9)), o 57 (.mv (.t 11)), o 58 (.iaddr 7 (.t 56) (.t 57)), o 59 (.faddr 4 (.t 58)), o 60 (.load none (.t 59)), o 61 (.bin .eql (.t 60) (.c (.int .i64 0))), o 62 (.mv (.t 61)), og 63 (.mv (.t 9)) 62 false, og 64 (.mv (.t 11)) 62 false, og 65 (.iaddr 7 (.t 63) (.t 64)) 62 false, og 66 (.faddr 4 (.t 65)) 62 false, og 67 (.load none (.t 66)) 62 false, og 68 (.bin .eql (.t 67) (.c (.int .i64 1))) 62 false, o 69 (.pick (.t 62) (.c (.bool true)) (.t 68))])
     (.cond (.t 69) (.reg [o 70 (.mv (.t 9)), o 71 (.mv (.t 11)), o 72 (.iaddr 7 (.t 70) (.t 71)), o 73 (.faddr 4 (.t 72)), st (.store 1 (.t 73) (.c (.int .i64 4)))]) (.skip)))
     (.reg [o 74 (.mv (.t 8)), o 75 (.mv (.t 11)), o 76 (.bin .add (.t 75) (.c (.int .i64 1))), o 77 (.call 102 [(.t 74), (.t 76)])]))))))
    (.reg [o 35 (.mv (.t 10)), o 36 (.bin .add (.t 35) (.c (.int .i64 1))), o 10 (.mv (.t 36))]))))))
  (.seq (.reg [o 78 (.mv (.t 8)), o 79 (.mv (.t 9)), o 6 (.mv (.t 78)), o 7 (.mv (.t 79))])
  (.ret)))))),
  [.tmp 6, .tmp 7]⟩
/- loop.example/g03011/spec.l3Ints -/
def F122 : Fun := ⟨22,
  .seq (.reg [o 4 (.mv (.c .nsl))])
  (.seq (.reg [o 7 (.bslice 1 [(.int .i64 0)] 0 []), o 5 (.mv (.t 7))])
  (.seq (.seq (.reg [o 8 (.mv (.t 0)), o 9 (.mv (.t 1)), o 10 (.bin .add (.t 9) (.c (.int .i64 1))), o 11 (.call 105 [(.t 8), (.t 10)]), o 6 (.mv (.t 11))])
  (.block 0 (.loop (.seq (.seq (.reg [o 12 (.mv (.t 6)), o 13 (.bin .gtr (.t 12) (.c (.int .i64 0)))])
    (.cond (.t 13) (.skip) (.exit 0)))
    (.seq (.block 1 (.reg [o 16 (.mv (.t 5)), o 17 (.mv (.t 0)), o 18 (.call 153 [(.t 17)]), o 19 (.bslice 1 [(.int .i64 0)] 1 [(0, (.t 18))]), o 20 (.append 1 8 (.t 16) (.t 19)), o 5 (.mv (.t 20))]))
    (.reg [o 14 (.mv (.t 6)), o 15 (.bin .sub (.t 14) (.c (.int .i64 1))), o 6 (.mv (.t 15))]))))))
  (.seq (.reg [o 21 (.mv (.t 5)), o 4 (.mv (.t 21))])
  (.ret)))),
  [.tmp 4]⟩
/- loop.example/g03011/laws.szAnswer -/
def F123 : Fun := ⟨45,
  .seq (.reg [o 2 (.box 11 (.t 0)), o 4 (.mv (.c (.int .i64 0)))])
  (.seq (.reg [o 5 (.mv (.t 1)), o 6 (.faddr 1 (.t 2)), o 7 (.load none (.t 6)), o 8 (.lenS (.t 7)), o 9 (.bin .sub (.t 5) (.t 8)), o 1 (.mv (.t 9))])
  (.seq (.seq (.reg [o 10 (.mv (.t 1)), o 11 (.bin .lss (.t 10) (.c (.int .i64 0)))])
  (.cond (.t 11) (.seq (.reg [o 4 (.mv (.c (.int .i64 (-1))))])
   (.ret)) (.skip)))
  (.seq (.reg [o 12 (.faddr 2 (.t 2)), o 13 (.load none (.t 12)), o 14 (.mv (.t 1)), o 15 (.call 154 [(.t 13), (.t 14)]), o 1 (.mv (.t 15))])
  (.seq (.seq (.reg [o 16 (.mv (.t 1)), o 17 (.bin .lss (.t 16) (.c (.int .i64 0)))])
  (.cond (.t 17) (.seq (.reg [o 4 (.mv (.c (.int .i64 (-1))))])
   (.ret)) (.skip)))
  (.seq (.reg [o 18 (.faddr 3 (.t 2)), o 19 (.load (some 3) (.t 18)), o 20 (.mv (.t 1)), o 21 (.call 155 [(.t 19), (.t 20)]), o 1 (.mv (.t 21))])
  (.seq (.seq (.reg [o 22 (.mv (.t 1)), o 23 (.bin .lss (.t 22) (.c (.int .i64 0)))])
  (.cond (.t 23) (.seq (.reg [o 4 (.mv (.c (.int .i64 (-1))))])
   (.ret)) (.skip)))
  (.seq (.reg [o 24 (.mv (.t 1)), o 25 (.faddr 6 (.t 2)), o 26 (.load none (.t 25)), o 27 (.lenS (.t 26)), o 28 (.bin .sub (.t 24) (.t 27)), o 1 (.mv (.t 28))])
  (.seq (.seq (.reg [o 29 (.mv (.t 1)), o 30 (.bin .lss (.t 29) (.c (.int .i64 0)))])
  (.cond (.t 30) (.seq (.reg [o 4 (.mv (.c (.int .i64 (-1))))])
   (.ret)) (.skip)))
  (.seq (.reg [o 31 (.faddr 7 (.t 2)), o 32 (.load (some 3) (.t 31)), o 33 (.mv (.t 1)), o 34 (.call 59 [(.t 32), (.t 33)]), o 1 (.mv (.t 34))])
  (.seq (.seq (.reg [o 35 (.mv (.t 1)), o 36 (.bin .lss (.t 35) (.c (.int .i64 0)))])
  (.cond (.t 36) (.seq (.reg [o 4 (.mv (.c (.int .i64 (-1))))])
   (.ret)) (.skip)))
  (.seq (.reg [o 37 (.mv (.t 1)), o 38 (.faddr 10 (.t 2)), o 39 (.load none (.t 38)), o 40 (.lenS (.t 39)), o 41 (.bin .sub (.t 37) (.t 40)), o 1 (.mv (.t 41))])
  (.seq (.seq (.reg [o 42 (.mv (.t 1)), o 43 (.bin .lss (.t 42) (.c (.int .i64 0)))])
  (.cond (.t 43) (.seq (.reg [o 4 (.mv (.c (.int .i64 (-1))))])
   (.ret)) (.skip)))
  (.seq (.reg [o 44 (.mv (.t 1)), o 4 (.mv (.t 44))])
  (.ret)))))))))))))),
  [.tmp 4]⟩
/- loop.example/g03011/spec.l40Last -/
def F124 : Fun := ⟨29,
  .seq (.reg [o 4 (.mv (.c (.str []))), o 5 (.mv (.c (.bool false)))])
  (.seq (.seq (.reg [o 7 (.mv (.t 1)), o 8 (.bin .sub (.t 7) (.c (.int .i64 1))), o 6 (.mv (.t 8))])
  (.block 0 (.loop (.seq (.seq (.reg [o 9 (.mv (.t 6)), o 10 (.bin .geq (.t 9) (.c (.int .i64 0)))])
    (.cond (.t 10) (.skip) (.exit 0)))
    (.seq (.block 1 (.seq (.reg [o 13 (.mv (.t 0)), o 14 (.mv (.t 6)), o 15 (.iaddr 11 (.t 13) (.t 14)), o 16 (.faddr 1 (.t 15)), o 17 (.load none (.t 16)), o 18 (.mv (.t 0)), o 19 (.mv (.t 1)), o 20 (.iaddr 11 (.t 18) (.t 19)), o 21 (.faddr 1 (.t 20)), o 22 (.load none (.t 21)), o 23 (.bin .eql (.t 17) (.t 22))])
     (.cond (.t 23) (.seq (.reg [o 24 (.mv (.t 0)), o 25 (.mv (.t 6)), o 26 (.iaddr 11 (.t 24) (.t 25)), o 27 (.faddr 10 (.t 26)), o 28 (.load none (.t 27)), o 4 (.mv (.t 28)), o 5 (.mv (.c (.bool true)))])
      (.ret)) (.skip))))
    (.reg [o 11 (.mv (.t 6)), o 12 (.bin .sub (.t 11) (.c (.int .i64 1))), o 6 (.mv (.t 12))]))))))
  (.seq (.reg [o 4 (.mv (.c (.str []))), o 5 (.mv (.c (.bool false)))])
  (.ret))),
  [.tmp 4, .tmp 5]⟩
/- loop.example/g03011/laws.toAnswer -/
def F125 : Fun := ⟨29,
  .seq (.reg [o 1 (.box 11 (.t 0)), o 2 (.new 11 [(.int .i64 0), (.str []), .nsl, (.str []), .nsl, .nsl, (.str []), (.int .i64 0), .nsl, (.str []), (.str [])])])
  (.seq (.reg [o 3 (.new 11 [(.int .i64 0), (.str []), .nsl, (.str []), .nsl, .nsl, (.str []), (.int .i64 0), .nsl, (.str []), (.str [])])])
  (.seq (.reg [o 4 (.faddr 0 (.t 1)), o 5 (.load none (.t 4)), o 6 (.faddr 0 (.t 3)), st (.store 1 (.t 6) (.t 5))])
  (.seq (.reg [o 7 (.faddr 1 (.t 1)), o 8 (.load none (.t 7)), o 9 (.faddr 1 (.t 3)), st (.store 1 (.t 9) (.t 8))])
  (.seq (.reg [o 10 (.faddr 2 (.t 1)), o 11 (.load none (.t 10)), o 12 (.call 156 [(.t 11)]), o 13 (.faddr 2 (.t 3)), st (.store 1 (.t 13) (.t 12))])
  (.seq (.reg [o 14 (.faddr 3 (.t 1)), o 15 (.load (some 3) (.t 14)), o 16 (.call 157 [(.t 15)]), o 17 (.faddr 3 (.t 3)), st (.store 3 (.t 17) (.t 16))])
  (.seq (.reg [o 18 (.faddr 6 (.t 1)), o 19 (.load none (.t 18)), o 20 (.faddr 6 (.t 3)), st (.store 1 (.t 20) (.t 19))])
  (.seq (.reg [o 21 (.faddr 7 (.t 1)), o 22 (.load (some 3) (.t 21)), o 23 (.call 61 [(.t 22)]), o 24 (.faddr 7 (.t 3)), st (.store 3 (.t 24) (.t 23))])
  (.seq (.reg [o 25 (.faddr 10 (.t 1)), o 26 (.load none (.t 25)), o 27 (.faddr 10 (.t 3)), st (.store 1 (.t 27) (.t 26))])
  (.seq (.reg [o 28 (.load (some 11) (.t 3)), st (.store 11 (.t 2) (.t 28))])
  (.ret)))))))))),
  [.cell 2 (some 11)]⟩
/- loop.example/g03011/laws.eqAnswer -/
def F126 : Fun := ⟨43,
  .seq (.reg [o 2 (.box 11 (.t 0)), o 3 (.box 11 (.t 1)), o 4 (.mv (.c (.bool false)))])
  (.seq (.seq (.reg [o 5 (.faddr 0 (.t 2)), o 6 (.load none (.t 5)), o 7 (.faddr 0 (.t 3)), o 8 (.load none (.t 7)), o 9 (.bin .neq (.t 6) (.t 8))])
  (.cond (.t 9) (.seq (.reg [o 4 (.mv (.c (.bool false)))])
   (.ret)) (.skip)))
  (.seq (.seq (.reg [o 10 (.faddr 1 (.t 2)), o 11 (.load none (.t 10)), o 12 (.faddr 1 (.t 3)), o 13 (.load none (.t 12)), o 14 (.bin .neq (.t 11) (.t 13))])
  (.cond (.t 14) (.seq (.reg [o 4 (.mv (.c (.bool false)))])
   (.ret)) (.skip)))
  (.seq (.seq (.reg [o 15 (.faddr 2 (.t 2)), o 16 (.load none (.t 15)), o 17 (.faddr 2 (.t 3)), o 18 (.load none (.t 17)), o 19 (.call 158 [(.t 16), (.t 18)]), o 20 (.un .not (.t 19))])
  (.cond (.t 20) (.seq (.reg [o 4 (.mv (.c (.bool false)))])
   (.ret)) (.skip)))
  (.seq (.seq (.reg [o 21 (.faddr 3 (.t 2)), o 22 (.load (some 3) (.t 21)), o 23 (.faddr 3 (.t 3)), o 24 (.load (some 3) (.t 23)), o 25 (.call 159 [(.t 22), (.t 24)]), o 26 (.un .not (.t 25))])
  (.cond (.t 26) (.seq (.reg [o 4 (.mv (.c (.bool false)))])
   (.ret)) (.skip)))
  (.seq (.seq (.reg [o 27 (.faddr 6 (.t 2)), o 28 (.load none (.t 27)), o 29 (.faddr 6 (.t 3)), o 30 (.load none (.t 29)), o 31 (.bin .neq (.t 28) (.t 30))])
  (.cond (.t 31) (.seq (.reg [o 4 (.mv (.c (.bool false)))])
   (.ret)) (.skip)))
  (.seq (.seq (.reg [o 32 (.faddr 7 (.t 2)), o 33 (.load (some 3) (.t 32)), o 34 (.faddr 7 (.t 3)), o 35 (.load (some 3) (.t 34)), o 36 (.call 63 [(.t 33), (.t 35)]), o 37 (.un .not (.t 36))])
  (.cond (.t 37) (.seq (.reg [o 4 (.mv (.c (.bool false)))])
   (.ret)) (.skip)))
  (.seq (.seq (.reg [o 38 (.faddr 10 (.t 2)), o 39 (.load none (.t 38)), o 40 (.faddr 10 (.t 3)), o 41 (.load none (.t 40)), o 42 (.bin .neq (.t 39) (.t 41))])
  (.cond (.t 42) (.seq (.reg [o 4 (.mv (.c (.bool false)))])
   (.ret)) (.skip)))
  (.seq (.reg [o 4 (.mv (.c (.bool true)))])
  (.ret))))))))),
  [.tmp 4]⟩
/- loop.example/g03011/spec.l14Name -/
def F127 : Fun := ⟨31,
  .seq (.reg [o 4 (.mv (.c (.int .i64 0)))])
  (.seq (.reg [o 6 (.mv (.t 1)), o 5 (.mv (.t 6))])
  (.seq (.block 0 (.loop (.seq (.seq (.reg [o 7 (.mv (.t 5)), o 8 (.mv (.t 0)), o 9 (.lenS (.t 8)), o 10 (.bin .lss (.t 7) (.t 9)), o 11 (.mv (.t 10)), og 12 (.mv (.t 0)) 11 true, og 13 (.mv (.t 5)) 11 true, og 14 (.index (.t 12) (.t 13)) 11 true, og 15 (.call 160 [(.t 14)]) 11 true, og 16 (.mv (.t 15)) 11 true, og 17 (.mv (.t 5)) 16 false, og 18 (.mv (.t 1)) 16 false, og 19 (.bin .gtr (.t 17) (.t 18)) 16 false, og 20 (.mv (.t 19)) 16 false, og 21 (.mv (.t 0)) 20 true, og 22 (.mv (.t 5)) 20 true, og 23 (.index (.t 21) (.t 22)) 20 true, og 24 (.call 161 [(.t 23)]) 20 true, og 25 (.pick (.t 20) (.t 24) (.c (.bool false))) 16 false, og 26 (.pick (.t 16) (.c (.bool true)) (.t 25)) 11 true, o 27 (.pick (.t 11) (.t 26) (.c (.bool false)))])
    (.cond (.t 27) (.skip) (.exit 0)))
    (.block 1 (.reg [o 28 (.mv (.t 5)), o 29 (.bin .add (.t 28) (.c (.int .i64 1))), o 5 (.mv (.t 29))])))))
  (.seq (.reg [o 30 (.mv (.t 5)), o 4 (.mv (.t 30))])
  (.ret)))),
  [.tmp 4]⟩
/- loop.example/g03011/impl.nameLength -/
def F128 : Fun := ⟨33,
  .seq (.reg [o 2 (.mv (.c (.int .i64 0)))])
  (.seq (.reg [o 3 (.mv (.c (.int .i64 0)))])
  (.seq (.block 0 (.loop (.seq (.seq (.reg [o 4 (.mv (.t 3)), o 5 (.mv (.t 0)), o 6 (.lenS (.t 5)), o 7 (.bin .lss (.t 4) (.t 6)), o 8 (.mv (.t 7)), og 9 (.mv (.t 0)) 8 true, og 10 (.mv (.t 3)) 8 true, og 11 (.index (.t 9) (.t 10)) 8 true, og 12 (.call 162 [(.t 11)]) 8 true, og 13 (.mv (.t 12)) 8 true, og 14 (.mv (.t 0)) 13 false, og 15 (.mv (.t 3)) 13 false, og 16 (.index (.t 14) (.t 15)) 13 false, og 17 (.bin .eql (.t 16) (.c (.int .u8 95))) 13 false, og 18 (.pick (.t 13) (.c (.bool true)) (.t 17)) 8 true, og 19 (.mv (.t 18)) 8 true, og 20 (.mv (.t 3)) 19 false, og 21 (.bin .gtr (.t 20) (.c (.int .i64 0))) 19 false, og 22 (.mv (.t 21)) 19 false, og 23 (.mv (.t 0)) 22 true, og 24 (.mv (.t 3)) 22 true, og 25 (.index (.t 23) (.t 24)) 22 true, og 26 (.call 163 [(.t 25)]) 22 true, og 27 (.pick (.t 22) (.t 26) (.c (.bool false))) 19 false, og 28 (.pick (.t 19) (.c (.bool true)) (.t 27)) 8 true, o 29 (.pick (.t 8) (.t 28) (.c (.bool false)))])
    (.cond (.t 29) (.skip) (.exit 0)))
    (.block 1 (.reg [o 30 (.mv (.t 3)), o 31 (.bin .add (.t 30) (.c (.int .i64 1))), o 3 (.mv (.t 31))])))))
  (.seq (.reg [o 32 (.mv (.t 3)), o 2 (.mv (.t 32))])
  (.ret)))),
  [.tmp 2]⟩
/- loop.example/g03011/laws.szIntS -/
def F129 : Fun := ⟨12,
  .seq (.reg [o 4 (.mv (.c (.int .i64 0)))])
  (.seq (.reg [o 5 (.mv (.t 1)), o 6 (.mv (.t 0)), o 7 (.lenL (.t 6)), o 8 (.bin .sub (.t 5) (.t 7)), o 1 (.mv (.t 8))])
  (.seq (.seq (.reg [o 9 (.mv (.t 1)), o 10 (.bin .lss (.t 9) (.c (.int .i64 0)))])
  (.cond (.t 10) (.seq (.reg [o 4 (.mv (.c (.int .i64 (-1))))])
   (.ret)) (.skip)))
  (.seq (.reg [o 11 (.mv (.t 1)), o 4 (.mv (.t 11))])
  (.ret)))),
  [.tmp 4]⟩
/- loop.example/g03011/spec.l5Word -/
def F130 : Fun := ⟨6,
  .seq (.reg [o 2 (.mv (.c (.str [])))])
  (.seq (.reg [o 3 (.mv (.t 0)), o 4 (.bslice 1 [(.str [])] 20 [(0, (.c (.str []))), (1, (.c (.str [97]))), (2, (.c (.str [98]))), (3, (.c (.str [120, 49]))), (4, (.c (.str [48]))), (5, (.c (.str [53]))), (6, (.c (.str [45, 53]))), (7, (.c (.str [48, 53]))), (8, (.c (.str [45, 48]))), (9, (.c (.str [49, 50, 97]))), (10, (.c (.str [48, 48, 55]))), (11, (.c (.str [49, 48, 48, 48, 48, 48, 48, 48, 48, 48]))), (12, (.c (.str [49, 48, 48, 48, 48, 48, 48, 48, 48, 49]))), (13, (.c (.str [32, 49]))), (14, (.c (.str [105, 116, 39, 115]))), (15, (.c (.str [10]))), (16, (.c (.str [60, 105, 62]))), (17, (.c (.str [255, 59]))), (18, (.c (.str [110, 97, 109, 101]))), (19, (.c (.str [115, 58, 49, 58])))]), o 5 (.call 138 [(.t 3), (.t 4)]), o 2 (.mv (.t 5))])
  (.ret)),
  [.tmp 2]⟩
/- loop.example/g03011/spec.l1Once -/
def F131 : Fun := ⟨9,
  .seq (.reg [o 4 (.mv (.c (.bool false)))])
  (.seq (.reg [o 5 (.mv (.t 0)), o 6 (.mv (.t 1)), o 7 (.call 105 [(.t 5), (.t 6)]), o 8 (.bin .eql (.t 7) (.c (.int .i64 0))), o 4 (.mv (.t 8))])
  (.ret)),
  [.tmp 4]⟩
/- loop.example/g03011/spec.FormatInt -/
def F132 : Fun := ⟨31,
  .seq (.reg [o 2 (.mv (.c (.str [])))])
  (.seq (.seq (.reg [o 6 (.mv (.t 0)), o 7 (.bin .eql (.t 6) (.c (.int .i64 0)))])
  (.cond (.t 7) (.seq (.reg [o 2 (.mv (.c (.str [48])))])
   (.ret)) (.skip)))
  (.seq (.reg [o 3 (.mv (.c (.str [])))])
  (.seq (.seq (.reg [o 8 (.mv (.t 0)), o 4 (.mv (.t 8))])
  (.block 0 (.loop (.seq (.seq (.reg [o 9 (.mv (.t 4)), o 10 (.bin .neq (.t 9) (.c (.int .i64 0)))])
    (.cond (.t 10) (.skip) (.exit 0)))
    (.seq (.block 1 (.seq (.reg [o 13 (.mv (.t 4)), o 14 (.bin .rem (.t 13) (.c (.int .i64 10))), o 5 (.mv (.t 14))])
     (.seq (.seq (.reg [o 15 (.mv (.t 5)), o 16 (.bin .lss (.t 15) (.c (.int .i64 0)))])
     (.cond (.t 16) (.reg [o 17 (.mv (.t 5)), o 18 (.un .neg (.t 17)), o 5 (.mv (.t 18))]) (.skip)))
     (.reg [o 19 (.mv (.t 5)), o 20 (.bin .add (.c (.int .i64 48)) (.t 19)), o 21 (.toInt .u8 (.t 20)), o 22 (.bslice 1 [(.int .u8 0)] 1 [(0, (.t 21))]), o 23 (.toStr (.t 22)), o 24 (.mv (.t 3)), o 25 (.bin .add (.t 23) (.t 24)), o 3 (.mv (.t 25))]))))
    (.reg [o 11 (.mv (.t 4)), o 12 (.bin .quo (.t 11) (.c (.int .i64 10))), o 4 (.mv (.t 12))]))))))
  (.seq (.seq (.reg [o 26 (.mv (.t 0)), o 27 (.bin .lss (.t 26) (.c (.int .i64 0)))])
  (.cond (.t 27) (.seq (.reg [o 28 (.mv (.t 3)), o 29 (.bin .add (.c (.str [45])) (.t 28)), o 2 (.mv (.t 29))])
   (.ret)) (.skip)))
  (.seq (.reg [o 30 (.mv (.t 3)), o 2 (.mv (.t 30))])
  (.ret)))))),
  [.tmp 2]⟩
/- loop.example/g03011/spec.l1Odd -/
def F133 : Fun := ⟨6,
  .seq (.reg [o 2 (.mv (.c (.int .i64 0)))])
  (.seq (.reg [o 3 (.mv (.t 0)), o 4 (.bslice 1 [(.int .i64 0)] 14 [(0, (.c (.int .i64 (-1)))), (1, (.c (.int .i64 0))), (2, (.c (.int .i64 1))), (3, (.c (.int .i64 2))), (4, (.c (.int .i64 255))), (5, (.c (.int .i64 256))), (6, (.c (.int .i64 65535))), (7, (.c (.int .i64 2147483647))), (8, (.c (.int .i64 2147483648))), (9, (.c (.int .i64 4294967295))), (10, (.c (.int .i64 4294967296))), (11, (.c (.int .i64 (-2147483648)))), (12, (.c (.int .i64 9223372036854775807))), (13, (.c (.int .i64 (-9223372036854775808))))]), o 5 (.call 94 [(.t 3), (.t 4)]), o 2 (.mv (.t 5))])
  (.ret)),
  [.tmp 2]⟩
/- loop.example/g03011/spec.EscapeURL -/
def F134 : Fun := ⟨31,
  .seq (.reg [o 2 (.mv (.c (.str [])))])
  (.seq (.reg [o 3 (.mv (.c (.str [])))])
  (.seq (.seq (.reg [o 4 (.mv (.c (.int .i64 0)))])
  (.block 0 (.loop (.seq (.seq (.reg [o 5 (.mv (.t 4)), o 6 (.mv (.t 0)), o 7 (.lenS (.t 6)), o 8 (.bin .lss (.t 5) (.t 7))])
    (.cond (.t 8) (.skip) (.exit 0)))
    (.seq (.block 1 (.seq (.reg [o 11 (.mv (.t 0)), o 12 (.mv (.t 4)), o 13 (.index (.t 11) (.t 12)), o 14 (.call 164 [(.t 13)])])
     (.cond (.t 14) (.reg [o 15 (.mv (.t 3)), o 16 (.mv (.t 0)), o 17 (.mv (.t 4)), o 18 (.mv (.t 4)), o 19 (.bin .add (.t 18) (.c (.int .i64 1))), o 20 (.sliceS (.t 16) (some (.t 17)) (some (.t 19))), o 21 (.bin .add (.t 15) (.t 20)), o 3 (.mv (.t 21))]) (.reg [o 22 (.mv (.t 3)), o 23 (.bin .add (.t 22) (.c (.str [37]))), o 24 (.mv (.t 0)), o 25 (.mv (.t 4)), o 26 (.index (.t 24) (.t 25)), o 27 (.toInt .i64 (.t 26)), o 28 (.call 165 [(.t 27)]), o 29 (.bin .add (.t 23) (.t 28)), o 3 (.mv (.t 29))]))))
    (.reg [o 9 (.mv (.t 4)), o 10 (.bin .add (.t 9) (.c (.int .i64 1))), o 4 (.mv (.t 10))]))))))
  (.seq (.reg [o 30 (.mv (.t 3)), o 2 (.mv (.t 30))])
  (.ret)))),
  [.tmp 2]⟩
/- loop.example/g03011/impl.EscapeURL -/
def F135 : Fun := ⟨53,
  .seq (.reg [o 2 (.mv (.c (.str [])))])
  (.seq (.reg [o 6 (.bslice 1 [(.int .u8 0)] 0 []), o 3 (.mv (.t 6))])
  (.seq (.seq (.reg [o 4 (.mv (.c (.int .i64 0)))])
  (.block 0 (.loop (.seq (.seq (.reg [o 7 (.mv (.t 4)), o 8 (.mv (.t 0)), o 9 (.lenS (.t 8)), o 10 (.bin .lss (.t 7) (.t 9))])
    (.cond (.t 10) (.skip) (.exit 0)))
    (.seq (.block 1 (.seq (.reg [o 13 (.mv (.t 0)), o 14 (.mv (.t 4)), o 15 (.index (.t 13) (.t 14)), o 5 (.mv (.t 15))])
     (.seq (.reg [o 16 (.mv (.t 5)), o 17 (.call 162 [(.t 16)]), o 18 (.mv (.t 17)), og 19 (.mv (.t 5)) 18 false, og 20 (.call 163 [(.t 19)]) 18 false, o 21 (.pick (.t 18) (.c (.bool true)) (.t 20)), o 22 (.mv (.t 21)), og 23 (.mv (.t 5)) 22 false, og 24 (.bin .eql (.t 23) (.c (.int .u8 45))) 22 false, o 25 (.pick (.t 22) (.c (.bool true)) (.t 24)), o 26 (.mv (.t 25)), og 27 (.mv (.t 5)) 26 false, og 28 (.bin .eql (.t 27) (.c (.int .u8 95))) 26 false, o 29 (.pick (.t 26) (.c (.bool true)) (.t 28)), o 30 (.mv (.t 29)), og 31 (.mv (.t 5)) 30 false, og 32 (.bin .eql (.t 31) (.c (.int .u8 46))) 30 false, o 33 (.pick (.t 30) (.c (.bool true)) (.t 32)), o 34 (.mv (.t 33)), og 35 (.mv (.t 5)) 34 false, og 36 (.bin .eql (.t 35) (.c (.int .u8 126))) 34 false, o 37 (.pick (.t 34) (.c (.bool true)) (.t 36))])
     (.cond (.t 37) (.reg [o 38 (.mv (.t 3)), o 39 (.mv (.t 5)), o 40 (.bslice 1 [(.int .u8 0)] 1 [(0, (.t 39))]), o 41 (.append 1 1 (.t 38) (.t 40)), o 3 (.mv (.t 41))]) (.reg [o 42 (.mv (.t 3)), o 43 (.mv (.t 5)), o 44 (.bin .quo (.t 43) (.c (.int .u8 16))), o 45 (.call 166 [(.t 44)]), o 46 (.mv (.t 5)), o 47 (.bin .rem (.t 46) (.c (.int .u8 16))), o 48 (.call 166 [(.t 47)]), o 49 (.bslice 1 [(.int .u8 0)] 3 [(0, (.c (.int .u8 37))), (1, (.t 45)), (2, (.t 48))]), o 50 (.append 1 1 (.t 42) (.t 49)), o 3 (.mv (.t 50))])))))
    (.reg [o 11 (.mv (.t 4)), o 12 (.bin .add (.t 11) (.c (.int .i64 1))), o 4 (.mv (.t 12))]))))))
  (.seq (.reg [o 51 (.mv (.t 3)), o 52 (.toStr (.t 51)), o 2 (.mv (.t 52))])
  (.ret)))),
  [.tmp 2]⟩
/- slices.Clone[[]loop.example/g03011/impl.Line,loop.example/g03011/impl.Line] -/
def F137 : Fun := ⟨8,
  .seq (.reg [o 2 (.mv (.c .nsl))])
  (.seq (.seq (.reg [o 3 (.mv (.t 0)), o 4 (.isnl false (.t 3))])
  (.cond (.t 4) (.seq (.reg [o 2 (.mv (.c .nsl))])
   (.ret)) (.skip)))
  (.seq (.reg [o 5 (.bslice 4 [(.int .i64 0), (.int .i64 0), (.int .i64 0), .nsl] 0 []), o 6 (.mv (.t 0)), o 7 (.append 4 48 (.t 5) (.t 6)), o 2 (.mv (.t 7))])
  (.ret))),
  [.tmp 2]⟩
/- loop.example/g03011/spec.l1Str -/
def F138 : Fun := ⟨12,
  .seq (.reg [o 4 (.mv (.c (.str [])))])
  (.seq (.reg [o 5 (.mv (.t 1)), o 6 (.mv (.t 0)), o 7 (.mv (.t 1)), o 8 (.lenL (.t 7)), o 9 (.call 105 [(.t 6), (.t 8)]), o 10 (.iaddr 1 (.t 5) (.t 9)), o 11 (.load none (.t 10)), o 4 (.mv (.t 11))])
  (.ret)),
  [.tmp 4]⟩
/- loop.example/g03011/spec.l1Byte -/
def F139 : Fun := ⟨58,
  .seq (.reg [o 2 (.mv (.c (.int .i64 0)))])
  (.seq (.reg [o 4 (.mv (.t 0)), o 5 (.mv (.t 0)), o 6 (.nilck (.t 5)), o 7 (.faddr 2 (.t 6)), o 8 (.load none (.t 7)), o 9 (.bin .mul (.t 8) (.c (.int .i64 6364136223846793005))), o 10 (.bin .add (.t 9) (.c (.int .i64 1442695040888963407))), o 11 (.nilck (.t 4)), o 12 (.faddr 2 (.t 11)), st (.store 1 (.t 12) (.t 10))])
  (.seq (.reg [o 13 (.mv (.t 0)), o 14 (.nilck (.t 13)), o 15 (.faddr 2 (.t 14)), o 16 (.load none (.t 15)), o 17 (.bin .shr (.t 16) (.c (.int .u64 33))), o 18 (.mv (.t 0)), o 19 (.nilck (.t 18)), o 20 (.faddr 2 (.t 19)), o 21 (.load none (.t 20)), o 22 (.bin .shr (.t 21) (.c (.int .u64 47))), o 23 (.bin .xor (.t 17) (.t 22)), o 24 (.bin .and (.t 23) (.c (.int .i64 255))), o 3 (.mv (.t 24))])
  (.seq (.seq (.reg [o 25 (.mv (.t 0)), o 26 (.nilck (.t 25)), o 27 (.faddr 1 (.t 26)), o 28 (.load none (.t 27)), o 29 (.mv (.t 0)), o 30 (.nilck (.t 29)), o 31 (.faddr 0 (.t 30)), o 32 (.load none (.t 31)), o 33 (.lenL (.t 32)), o 34 (.bin .lss (.t 28) (.t 33))])
  (.cond (.t 34) (.seq (.reg [o 35 (.mv (.t 3)), o 36 (.mv (.t 0)), o 37 (.nilck (.t 36)), o 38 (.faddr 0 (.t 37)), o 39 (.load none (.t 38)), o 40 (.mv (.t 0)), o 41 (.nilck (.t 40)), o 42 (.faddr 1 (.t 41)), o 43 (.load none (.t 42)), o 44 (.iaddr 1 (.t 39) (.t 43)), o 45 (.load none (.t 44)), o 46 (.toInt .i64 (.t 45)), o 47 (.bin .add (.t 35) (.t 46)), o 48 (.bin .and (.t 47) (.c (.int .i64 255))), o 3 (.mv (.t 48))])
   (.reg [o 49 (.mv (.t 0)), o 50 (.mv (.t 0)), o 51 (.nilck (.t 50)), o 52 (.faddr 1 (.t 51)), o 53 (.load none (.t 52)), o 54 (.bin .add (.t 53) (.c (.int .i64 1))), o 55 (.nilck (.t 49)), o 56 (.faddr 1 (.t 55)), st (.store 1 (.t 56) (.t 54))])) (.skip)))
  (.seq (.reg [o 57 (.mv (.t 3)), o 2 (.mv (.t 57))])
  (.ret))))),
  [.tmp 2]⟩
/- loop.example/g03011/laws.szHeader -/
def F140 : Fun := ⟨20,
  .seq (.reg [o 2 (.box 2 (.t 0)), o 4 (.mv (.c (.int .i64 0)))])
  (.seq (.reg [o 5 (.mv (.t 1)), o 6 (.faddr 0 (.t 2)), o 7 (.load none (.t 6)), o 8 (.lenS (.t 7)), o 9 (.bin .sub (.t 5) (.t 8)), o 1 (.mv (.t 9))])
  (.seq (.seq (.reg [o 10 (.mv (.t 1)), o 11 (.bin .lss (.t 10) (.c (.int .i64 0)))])
  (.cond (.t 11) (.seq (.reg [o 4 (.mv (.c (.int .i64 (-1))))])
   (.ret)) (.skip)))
  (.seq (.reg [o 12 (.mv (.t 1)), o 13 (.faddr 1 (.t 2)), o 14 (.load none (.t 13)), o 15 (.lenS (.t 14)), o 16 (.bin .sub (.t 12) (.t 15)), o 1 (.mv (.t 16))])
  (.seq (.seq (.reg [o 17 (.mv (.t 1)), o 18 (.bin .lss (.t 17) (.c (.int .i64 0)))])
  (.cond (.t 18) (.seq (.reg [o 4 (.mv (.c (.int .i64 (-1))))])
   (.ret)) (.skip)))
  (.seq (.reg [o 19 (.mv (.t 1)), o 4 (.mv (.t 19))])
  (.ret)))))),
  [.tmp 4]⟩
/- loop.example/g03011/spec.l20Total -/
def F141 : Fun := ⟨25,
  .seq (.reg [o 1 (.box 3 (.t 0)), o 2 (.mv (.c (.int .i64 0)))])
  (.seq (.reg [o 5 (.faddr 0 (.t 1)), o 6 (.load none (.t 5)), o 7 (.lenS (.t 6)), o 3 (.mv (.t 7))])
  (.seq (.seq (.reg [o 4 (.mv (.c (.int .i64 0)))])
  (.block 0 (.loop (.seq (.seq (.reg [o 8 (.mv (.t 4)), o 9 (.faddr 2 (.t 1)), o 10 (.load none (.t 9)), o 11 (.lenL (.t 10)), o 12 (.bin .lss (.t 8) (.t 11))])
    (.cond (.t 12) (.skip) (.exit 0)))
    (.seq (.block 1 (.reg [o 15 (.mv (.t 3)), o 16 (.faddr 2 (.t 1)), o 17 (.load none (.t 16)), o 18 (.mv (.t 4)), o 19 (.iaddr 2 (.t 17) (.t 18)), o 20 (.faddr 1 (.t 19)), o 21 (.load none (.t 20)), o 22 (.lenS (.t 21)), o 23 (.bin .add (.t 15) (.t 22)), o 3 (.mv (.t 23))]))
    (.reg [o 13 (.mv (.t 4)), o 14 (.bin .add (.t 13) (.c (.int .i64 1))), o 4 (.mv (.t 14))]))))))
  (.seq (.reg [o 24 (.mv (.t 3)), o 2 (.mv (.t 24))])
  (.ret)))),
  [.tmp 2]⟩
/- loop.example/g03011/spec.l20Name -/
def F142 : Fun := ⟨37,
  .seq (.reg [o 2 (.mv (.c (.bool false)))])
  (.seq (.seq (.reg [o 3 (.mv (.c (.int .i64 0)))])
  (.block 0 (.loop (.seq (.seq (.reg [o 4 (.mv (.t 3)), o 5 (.mv (.t 0)), o 6 (.lenS (.t 5)), o 7 (.bin .lss (.t 4) (.t 6))])
    (.cond (.t 7) (.skip) (.exit 0)))
    (.seq (.block 1 (.seq (.reg [o 10 (.mv (.t 0)), o 11 (.mv (.t 3)), o 12 (.index (.t 10) (.t 11)), o 13 (.call 160 [(.t 12)]), o 14 (.un .not (.t 13)), o 15 (.mv (.t 14)), og 16 (.mv (.t 0)) 15 true, og 17 (.mv (.t 3)) 15 true, og 18 (.index (.t 16) (.t 17)) 15 true, og 19 (.call 161 [(.t 18)]) 15 true, og 20 (.un .not (.t 19)) 15 true, o 21 (.pick (.t 15) (.t 20) (.c (.bool false))), o 22 (.mv (.t 21)), og 23 (.mv (.t 0)) 22 true, og 24 (.mv (.t 3)) 22 true, og 25 (.index (.t 23) (.t 24)) 22 true, og 26 (.bin .neq (.t 25) (.c (.int .u8 45))) 22 true, o 27 (.pick (.t 22) (.t 26) (.c (.bool false))), o 28 (.mv (.t 27)), og 29 (.mv (.t 0)) 28 false, og 30 (.mv (.t 3)) 28 false, og 31 (.index (.t 29) (.t 30)) 28 false, og 32 (.bin .eql (.t 31) (.c (.int .u8 95))) 28 false, o 33 (.pick (.t 28) (.c (.bool true)) (.t 32))])
     (.cond (.t 33) (.seq (.reg [o 2 (.mv (.c (.bool false)))])
      (.ret)) (.skip))))
    (.reg [o 8 (.mv (.t 3)), o 9 (.bin .add (.t 8) (.c (.int .i64 1))), o 3 (.mv (.t 9))]))))))
  (.seq (.reg [o 34 (.mv (.t 0)), o 35 (.lenS (.t 34)), o 36 (.call 80 [(.t 35), (.c (.int .i64 1)), (.c (.int .i64 20))]), o 2 (.mv (.t 36))])
  (.ret))),
  [.tmp 2]⟩
/- loop.example/g03011/spec.l20Value -/
def F143 : Fun := ⟨19,
  .seq (.reg [o 2 (.mv (.c (.bool false)))])
  (.seq (.seq (.reg [o 3 (.mv (.c (.int .i64 0)))])
  (.block 0 (.loop (.seq (.seq (.reg [o 4 (.mv (.t 3)), o 5 (.mv (.t 0)), o 6 (.lenS (.t 5)), o 7 (.bin .lss (.t 4) (.t 6))])
    (.cond (.t 7) (.skip) (.exit 0)))
    (.seq (.block 1 (.seq (.reg [o 10 (.mv (.t 0)), o 11 (.mv (.t 3)), o 12 (.index (.t 10) (.t 11)), o 13 (.toInt .i64 (.t 12)), o 14 (.call 80 [(.t 13), (.c (.int .i64 32)), (.c (.int .i64 126))]), o 15 (.un .not (.t 14))])
     (.cond (.t 15) (.seq (.reg [o 2 (.mv (.c (.bool false)))])
      (.ret)) (.skip))))
    (.reg [o 8 (.mv (.t 3)), o 9 (.bin .add (.t 8) (.c (.int .i64 1))), o 3 (.mv (.t 9))]))))))
  (.seq (.reg [o 16 (.mv (.t 0)), o 17 (.lenS (.t 16)), o 18 (.bin .leq (.t 17) (.c (.int .i64 60))), o 2 (.mv (.t 18))])
  (.ret))),
  [.tmp 2]⟩
/- loop.example/g03011/laws.toHeader -/
def F144 : Fun := ⟨11,
  .seq (.reg [o 1 (.box 2 (.t 0)), o 2 (.new 2 [(.str []), (.str [])])])
  (.seq (.reg [o 3 (.new 2 [(.str []), (.str [])])])
  (.seq (.reg [o 4 (.faddr 0 (.t 1)), o 5 (.load none (.t 4)), o 6 (.faddr 0 (.t 3)), st (.store 1 (.t 6) (.t 5))])
  (.seq (.reg [o 7 (.faddr 1 (.t 1)), o 8 (.load none (.t 7)), o 9 (.faddr 1 (.t 3)), st (.store 1 (.t 9) (.t 8))])
  (.seq (.reg [o 10 (.load (some 2) (.t 3)), st (.store 2 (.t 2) (.t 10))])
  (.ret))))),
  [.cell 2 (some 2)]⟩
/- loop.example/g03011/impl.outputTotal -/
def F145 : Fun := ⟨23,
  .seq (.reg [o 1 (.box 3 (.t 0)), o 2 (.mv (.c (.int .i64 0)))])
  (.seq (.reg [o 6 (.faddr 0 (.t 1)), o 7 (.load none (.t 6)), o 8 (.lenS (.t 7)), o 3 (.mv (.t 8))])
  (.seq (.seq (.reg [o 9 (.faddr 2 (.t 1)), o 10 (.load none (.t 9)), o 11 (.lenL (.t 10)), o 12 (.mv (.c (.int .i64 0)))])
  (.block 0 (.loop (.seq (.reg [o 13 (.bin .lss (.t 12) (.t 11))])
    (.seq (.cond (.t 13) (.skip) (.exit 0))
    (.seq (.block 1 (.seq (.reg [o 14 (.iaddr 2 (.t 10) (.t 12)), o 15 (.load (some 2) (.t 14)), o 5 (.new 2 [(.int .i64 0), (.str [])]), st (.store 2 (.t 5) (.t 15))])
     (.reg [o 16 (.mv (.t 3)), o 17 (.faddr 1 (.t 5)), o 18 (.load none (.t 17)), o 19 (.lenS (.t 18)), o 20 (.bin .add (.t 16) (.t 19)), o 3 (.mv (.t 20))])))
    (.reg [o 21 (.bin .add (.t 12) (.c (.int .i64 1))), o 12 (.mv (.t 21))])))))))
  (.seq (.reg [o 22 (.mv (.t 3)), o 2 (.mv (.t 22))])
  (.ret)))),
  [.tmp 2]⟩
/- loop.example/g03011/impl.headerName -/
def F146 : Fun := ⟨31,
  .seq (.reg [o 2 (.mv (.c (.bool false)))])
  (.seq (.seq (.reg [o 3 (.mv (.c (.int .i64 0)))])
  (.block 0 (.loop (.seq (.seq (.reg [o 4 (.mv (.t 3)), o 5 (.mv (.t 0)), o 6 (.lenS (.t 5)), o 7 (.bin .lss (.t 4) (.t 6))])
    (.cond (.t 7) (.skip) (.exit 0)))
    (.seq (.block 1 (.seq (.reg [o 10 (.mv (.t 0)), o 11 (.mv (.t 3)), o 12 (.index (.t 10) (.t 11)), o 13 (.call 162 [(.t 12)]), o 14 (.un .not (.t 13)), o 15 (.mv (.t 14)), og 16 (.mv (.t 0)) 15 true, og 17 (.mv (.t 3)) 15 true, og 18 (.index (.t 16) (.t 17)) 15 true, og 19 (.call 163 [(.t 18)]) 15 true, og 20 (.un .not (.t 19)) 15 true, o 21 (.pick (.t 15) (.t 20) (.c (.bool false))), o 22 (.mv (.t 21)), og 23 (.mv (.t 0)) 22 true, og 24 (.mv (.t 3)) 22 true, og 25 (.index (.t 23) (.t 24)) 22 true, og 26 (.bin .neq (.t 25) (.c (.int .u8 45))) 22 true, o 27 (.pick (.t 22) (.t 26) (.c (.bool false)))])
     (.cond (.t 27) (.seq (.reg [o 2 (.mv (.c (.bool false)))])
      (.ret)) (.skip))))
    (.reg [o 8 (.mv (.t 3)), o 9 (.bin .add (.t 8) (.c (.int .i64 1))), o 3 (.mv (.t 9))]))))))
  (.seq (.reg [o 28 (.mv (.t 0)), o 29 (.lenS (.t 28)), o 30 (.call 83 [(.t 29), (.c (.int .i64 1)), (.c (.int .i64 20))]), o 2 (.mv (.t 30))])
  (.ret))),
  [.tmp 2]⟩
/- loop.example/g03011/impl.headerValue -/
def F147 : Fun := ⟨23,
  .seq (.reg [o 2 (.mv (.c (.bool false)))])
  (.seq (.seq (.reg [o 3 (.mv (.c (.int .i64 0)))])
  (.block 0 (.loop (.seq (.seq (.reg [o 4 (.mv (.t 3)), o 5 (.mv (.t 0)), o 6 (.lenS (.t 5)), o 7 (.bin .lss (.t 4) (.t 6))])
    (.cond (.t 7) (.skip) (.exit 0)))
    (.seq (.block 1 (.seq (.reg [o 10 (.mv (.t 0)), o 11 (.mv (.t 3)), o 12 (.index (.t 10) (.t 11)), o 13 (.bin .lss (.t 12) (.c (.int .u8 32))), o 14 (.mv (.t 13)), og 15 (.mv (.t 0)) 14 false, og 16 (.mv (.t 3)) 14 false, og 17 (.index (.t 15) (.t 16)) 14 false, og 18 (.bin .gtr (.t 17) (.c (.int .u8 126))) 14 false, o 19 (.pick (.t 14) (.c (.bool true)) (.t 18))])
     (.cond (.t 19) (.seq (.reg [o 2 (.mv (.c (.bool false)))])
      (.ret)) (.skip))))
    (.reg [o 8 (.mv (.t 3)), o 9 (.bin .add (.t 8) (.c (.int .i64 1))), o 3 (.mv (.t 9))]))))))
  (.seq (.reg [o 20 (.mv (.t 0)), o 21 (.lenS (.t 20)), o 22 (.bin .leq (.t 21) (.c (.int .i64 60))), o 2 (.mv (.t 22))])
  (.ret))),
  [.tmp 2]⟩
/- loop.example/g03011/laws.eqHeader -/
def F148 : Fun := ⟨15,
  .seq (.reg [o 2 (.box 2 (.t 0)), o 3 (.box 2 (.t 1)), o 4 (.mv (.c (.bool false)))])
  (.seq (.seq (.reg [o 5 (.faddr 0 (.t 2)), o 6 (.load none (.t 5)), o 7 (.faddr 0 (.t 3)), o 8 (.load none (.t 7)), o 9 (.bin .neq (.t 6) (.t 8))])
  (.cond (.t 9) (.seq (.reg [o 4 (.mv (.c (.bool false)))])
   (.ret)) (.skip)))
  (.seq (.seq (.reg [o 10 (.faddr 1 (.t 2)), o 11 (.load none (.t 10)), o 12 (.faddr 1 (.t 3)), o 13 (.load none (.t 12)), o 14 (.bin .neq (.t 11) (.t 13))])
  (.cond (.t 14) (.seq (.reg [o 4 (.mv (.c (.bool false)))])
   (.ret)) (.skip)))
  (.seq (.reg [o 4 (.mv (.c (.bool true)))])
  (.ret)))),
  [.tmp 4]⟩
/- loop.example/g03011/impl.writeAccess -/
def F149 : Fun := ⟨71,
  .seq (.block 0 (.seq (.reg [o 18 (.mv (.t 1)), o 19 (.nilck (.t 18)), o 20 (.faddr 5 (.t 19)), o 21 (.load none (.t 20)), o 22 (.bin .eql (.t 21) (.c (.int .i64 0))), o 17 (.mv (.t 22))])
   (.cond (.t 17) (.seq (.reg [o 23 (.mv (.t 0)), o 24 (.mv (.t 1)), o 25 (.nilck (.t 24)), o 26 (.faddr 2 (.t 25)), o 27 (.load none (.t 26)), o 28 (.nilck (.t 23)), o 29 (.faddr 2 (.t 28)), st (.store 1 (.t 29) (.t 27))])
    (.reg [o 30 (.mv (.t 0)), o 31 (.nilck (.t 30)), o 32 (.faddr 3 (.t 31)), st (.store 1 (.t 32) (.c .nsl))])) (.seq (.reg [o 34 (.mv (.t 1)), o 35 (.nilck (.t 34)), o 36 (.faddr 5 (.t 35)), o 37 (.load none (.t 36)), o 38 (.mv (.t 1)), o 39 (.nilck (.t 38)), o 40 (.faddr 3 (.t 39)), o 41 (.load none (.t 40)), o 42 (.lenL (.t 41)), o 43 (.bin .leq (.t 37) (.t 42)), o 33 (.mv (.t 43))])
    (.cond (.t 33) (.reg [o 44 (.mv (.t 0)), o 45 (.mv (.t 0)), o 46 (.nilck (.t 45)), o 47 (.faddr 3 (.t 46)), o 48 (.load none (.t 47)), o 49 (.mv (.t 1)), o 50 (.nilck (.t 49)), o 51 (.faddr 3 (.t 50)), o 52 (.load none (.t 51)), o 53 (.mv (.t 1)), o 54 (.nilck (.t 53)), o 55 (.faddr 5 (.t 54)), o 56 (.load none (.t 55)), o 57 (.bin .sub (.t 56) (.c (.int .i64 1))), o 58 (.iaddr 1 (.t 52) (.t 57)), o 59 (.load none (.t 58)), o 60 (.bslice 1 [(.int .i64 0)] 1 [(0, (.t 59))]), o 61 (.append 1 8 (.t 48) (.t 60)), o 62 (.nilck (.t 44)), o 63 (.faddr 3 (.t 62)), st (.store 1 (.t 63) (.t 61))]) (.seq (.reg [o 4 (.mv (.t 0)), o 5 (.nilck (.t 4)), o 6 (.faddr 0 (.t 5)), o 7 (.load none (.t 6)), o 8 (.bin .add (.t 7) (.c (.int .i64 1))), o 9 (.nilck (.t 4)), o 10 (.faddr 0 (.t 9)), st (.store 1 (.t 10) (.t 8))])
     (.seq (.reg [o 11 (.mv (.t 0)), o 12 (.nilck (.t 11)), o 13 (.faddr 1 (.t 12)), st (.store 1 (.t 13) (.c (.int .i64 0)))])
     (.seq (.reg [o 14 (.mv (.t 1)), o 15 (.nilck (.t 14)), o 16 (.faddr 4 (.t 15)), st (.store 1 (.t 16) (.c (.int .i64 2)))])
     (.ret)))))))))
  (.reg [o 64 (.mv (.t 1)), o 65 (.nilck (.t 64)), o 66 (.faddr 5 (.t 65)), o 67 (.load none (.t 66)), o 68 (.bin .add (.t 67) (.c (.int .i64 1))), o 69 (.nilck (.t 64)), o 70 (.faddr 5 (.t 69)), st (.store 1 (.t 70) (.t 68))]),
  []⟩
/- loop.example/g03011/impl.readAccess -/
def F150 : Fun := ⟨75,
  .seq (.block 0 (.seq (.reg [o 20 (.mv (.t 1)), o 21 (.nilck (.t 20)), o 22 (.faddr 5 (.t 21)), o 23 (.load none (.t 22)), o 24 (.bin .eql (.t 23) (.c (.int .i64 0))), o 19 (.mv (.t 24))])
   (.cond (.t 19) (.seq (.reg [o 25 (.mv (.t 0)), o 26 (.nilck (.t 25)), o 27 (.faddr 2 (.t 26)), o 28 (.load none (.t 27)), o 29 (.mv (.t 1)), o 30 (.nilck (.t 29)), o 31 (.faddr 2 (.t 30)), o 32 (.load none (.t 31)), o 33 (.bin .neq (.t 28) (.t 32))])
    (.cond (.t 33) (.seq (.reg [o 34 (.mv (.t 1)), o 35 (.nilck (.t 34)), o 36 (.faddr 4 (.t 35)), st (.store 1 (.t 36) (.c (.int .i64 3)))])
     (.ret)) (.skip))) (.seq (.reg [o 38 (.mv (.t 1)), o 39 (.nilck (.t 38)), o 40 (.faddr 5 (.t 39)), o 41 (.load none (.t 40)), o 42 (.mv (.t 0)), o 43 (.nilck (.t 42)), o 44 (.faddr 3 (.t 43)), o 45 (.load none (.t 44)), o 46 (.lenL (.t 45)), o 47 (.bin .leq (.t 41) (.t 46)), o 37 (.mv (.t 47))])
    (.cond (.t 37) (.reg [o 48 (.mv (.t 1)), o 49 (.mv (.t 1)), o 50 (.nilck (.t 49)), o 51 (.faddr 3 (.t 50)), o 52 (.load none (.t 51)), o 53 (.mv (.t 0)), o 54 (.nilck (.t 53)), o 55 (.faddr 3 (.t 54)), o 56 (.load none (.t 55)), o 57 (.mv (.t 1)), o 58 (.nilck (.t 57)), o 59 (.faddr 5 (.t 58)), o 60 (.load none (.t 59)), o 61 (.bin .sub (.t 60) (.c (.int .i64 1))), o 62 (.iaddr 1 (.t 56) (.t 61)), o 63 (.load none (.t 62)), o 64 (.bslice 1 [(.int .i64 0)] 1 [(0, (.t 63))]), o 65 (.append 1 8 (.t 52) (.t 64)), o 66 (.nilck (.t 48)), o 67 (.faddr 3 (.t 66)), st (.store 1 (.t 67) (.t 65))]) (.seq (.reg [o 4 (.mv (.t 1)), o 5 (.nilck (.t 4)), o 6 (.faddr 4 (.t 5)), st (.store 1 (.t 6) (.c (.int .i64 3)))])
     (.seq (.seq (.reg [o 7 (.mv (.t 0)), o 8 (.nilck (.t 7)), o 9 (.faddr 0 (.t 8)), o 10 (.load none (.t 9)), o 11 (.mv (.t 1)), o 12 (.nilck (.t 11)), o 13 (.faddr 6 (.t 12)), o 14 (.load none (.t 13)), o 15 (.bin .eql (.t 10) (.t 14))])
     (.cond (.t 15) (.reg [o 16 (.mv (.t 1)), o 17 (.nilck (.t 16)), o 18 (.faddr 4 (.t 17)), st (.store 1 (.t 18) (.c (.int .i64 2)))]) (.skip)))
     (.ret))))))))
  (.reg [o 68 (.mv (.t 1)), o 69 (.nilck (.t 68)), o 70 (.faddr 5 (.t 69)), o 71 (.load none (.t 70)), o 72 (.bin .add (.t 71) (.c (.int .i64 1))), o 73 (.nilck (.t 68)), o 74 (.faddr 5 (.t 73)), st (.store 1 (.t 74) (.t 72))]),
  []⟩
/- loop.example/g03011/spec.l34Actors -/
def F151 : Fun := ⟨30,
  .seq (.reg [o 2 (.mv (.c .nsl))])
  (.seq (.reg [o 6 (.bslice 7 [(.bool false), (.int .i64 0), (.int .i64 0), .nsl, (.int .i64 0), (.int .i64 0), (.int .i64 0)] 0 []), o 3 (.mv (.t 6))])
  (.seq (.seq (.reg [o 4 (.mv (.c (.int .i64 0)))])
  (.block 0 (.loop (.seq (.seq (.reg [o 7 (.mv (.t 4)), o 8 (.mv (.t 0)), o 9 (.lenL (.t 8)), o 10 (.bin .lss (.t 7) (.t 9))])
    (.cond (.t 10) (.skip) (.exit 0)))
    (.seq (.block 1 (.seq (.reg [o 13 (.mv (.t 0)), o 14 (.mv (.t 4)), o 15 (.iaddr 7 (.t 13) (.t 14)), o 16 (.load (some 7) (.t 15)), o 5 (.new 7 [(.bool false), (.int .i64 0), (.int .i64 0), .nsl, (.int .i64 0), (.int .i64 0), (.int .i64 0)]), st (.store 7 (.t 5) (.t 16))])
     (.seq (.reg [o 17 (.bslice 1 [(.int .i64 0)] 0 []), o 18 (.mv (.t 0)), o 19 (.mv (.t 4)), o 20 (.iaddr 7 (.t 18) (.t 19)), o 21 (.faddr 3 (.t 20)), o 22 (.load none (.t 21)), o 23 (.append 1 8 (.t 17) (.t 22)), o 24 (.faddr 3 (.t 5)), st (.store 1 (.t 24) (.t 23))])
     (.reg [o 25 (.mv (.t 3)), o 26 (.load (some 7) (.t 5)), o 27 (.bslice 7 [(.bool false), (.int .i64 0), (.int .i64 0), .nsl, (.int .i64 0), (.int .i64 0), (.int .i64 0)] 1 [(0, (.t 26))]), o 28 (.append 7 72 (.t 25) (.t 27)), o 3 (.mv (.t 28))]))))
    (.reg [o 11 (.mv (.t 4)), o 12 (.bin .add (.t 11) (.c (.int .i64 1))), o 4 (.mv (.t 12))]))))))
  (.seq (.reg [o 29 (.mv (.t 3)), o 2 (.mv (.t 29))])
  (.ret)))),
  [.tmp 2]⟩
/- loop.example/g03011/spec.l34Access -/
def F152 : Fun := ⟨33,
  .seq (.reg [o 7 (.mv (.t 1)), o 8 (.mv (.t 2)), o 9 (.iaddr 7 (.t 7) (.t 8)), o 10 (.load (some 7) (.t 9)), o 6 (.new 7 [(.bool false), (.int .i64 0), (.int .i64 0), .nsl, (.int .i64 0), (.int .i64 0), (.int .i64 0)]), st (.store 7 (.t 6) (.t 10))])
  (.seq (.seq (.reg [o 11 (.faddr 1 (.t 6)), o 12 (.load none (.t 11)), o 13 (.bin .lss (.t 12) (.c (.int .i64 0))), o 14 (.mv (.t 13)), og 15 (.faddr 1 (.t 6)) 14 false, og 16 (.load none (.t 15)) 14 false, og 17 (.mv (.t 0)) 14 false, og 18 (.lenL (.t 17)) 14 false, og 19 (.bin .geq (.t 16) (.t 18)) 14 false, o 20 (.pick (.t 14) (.c (.bool true)) (.t 19))])
  (.cond (.t 20) (.ret) (.skip)))
  (.seq (.seq (.reg [o 21 (.faddr 0 (.t 6)), o 22 (.load none (.t 21))])
  (.cond (.t 22) (.reg [o 23 (.mv (.t 0)), o 24 (.mv (.t 2)), o 25 (.bin .add (.t 24) (.c (.int .i64 1))), o 26 (.call 170 [(.t 23), (.t 6), (.t 25)])]) (.reg [o 27 (.mv (.t 0)), o 28 (.call 171 [(.t 27), (.t 6)])])))
  (.reg [o 29 (.mv (.t 1)), o 30 (.mv (.t 2)), o 31 (.load (some 7) (.t 6)), o 32 (.iaddr 7 (.t 29) (.t 30)), st (.store 7 (.t 32) (.t 31))]))),
  []⟩
/- loop.example/g03011/spec.l1One -/
def F153 : Fun := ⟨16,
  .seq (.reg [o 2 (.mv (.c (.int .i64 0)))])
  (.seq (.seq (.reg [o 3 (.mv (.t 0)), o 4 (.call 105 [(.t 3), (.c (.int .i64 8))])])
  (.block 0 (.seq (.reg [o 6 (.bin .eql (.t 4) (.c (.int .i64 0))), o 5 (.mv (.t 6))])
   (.cond (.t 5) (.seq (.reg [o 7 (.mv (.t 0)), o 8 (.call 133 [(.t 7)]), o 2 (.mv (.t 8))])
    (.ret)) (.seq (.reg [o 10 (.bin .eql (.t 4) (.c (.int .i64 1))), o 9 (.mv (.t 10))])
    (.cond (.t 9) (.seq (.reg [o 11 (.mv (.t 0)), o 12 (.call 172 [(.t 11)]), o 13 (.un .neg (.t 12)), o 2 (.mv (.t 13))])
     (.ret)) (.skip)))))))
  (.seq (.reg [o 14 (.mv (.t 0)), o 15 (.call 172 [(.t 14)]), o 2 (.mv (.t 15))])
  (.ret))),
  [.tmp 2]⟩
/- loop.example/g03011/laws.szFileS -/
def F154 : Fun := ⟨27,
  .seq (.reg [o 4 (.mv (.c (.int .i64 0)))])
  (.seq (.reg [o 6 (.mv (.t 1)), o 7 (.mv (.t 0)), o 8 (.lenL (.t 7)), o 9 (.bin .sub (.t 6) (.t 8)), o 1 (.mv (.t 9))])
  (.seq (.seq (.reg [o 10 (.mv (.t 1)), o 11 (.bin .lss (.t 10) (.c (.int .i64 0)))])
  (.cond (.t 11) (.seq (.reg [o 4 (.mv (.c (.int .i64 (-1))))])
   (.ret)) (.skip)))
  (.seq (.seq (.reg [o 5 (.mv (.c (.int .i64 0)))])
  (.block 0 (.loop (.seq (.seq (.reg [o 12 (.mv (.t 5)), o 13 (.mv (.t 0)), o 14 (.lenL (.t 13)), o 15 (.bin .lss (.t 12) (.t 14))])
    (.cond (.t 15) (.skip) (.exit 0)))
    (.seq (.block 1 (.seq (.reg [o 18 (.mv (.t 0)), o 19 (.mv (.t 5)), o 20 (.iaddr 3 (.t 18) (.t 19)), o 21 (.load (some 3) (.t 20)), o 22 (.mv (.t 1)), o 23 (.call 173 [(.t 21), (.t 22)]), o 1 (.mv (.t 23))])
     (.seq (.reg [o 24 (.mv (.t 1)), o 25 (.bin .lss (.t 24) (.c (.int .i64 0)))])
     (.cond (.t 25) (.seq (.reg [o 4 (.mv (.c (.int .i64 (-1))))])
      (.ret)) (.skip)))))
    (.reg [o 16 (.mv (.t 5)), o 17 (.bin .add (.t 16) (.c (.int .i64 1))), o 5 (.mv (.t 17))]))))))
  (.seq (.reg [o 26 (.mv (.t 1)), o 4 (.mv (.t 26))])
  (.ret))))),
  [.tmp 4]⟩
/- loop.example/g03011/laws.szRequest -/
def F155 : Fun := ⟨25,
  .seq (.reg [o 2 (.box 3 (.t 0)), o 4 (.mv (.c (.int .i64 0)))])
  (.seq (.reg [o 5 (.mv (.t 1)), o 6 (.faddr 0 (.t 2)), o 7 (.load none (.t 6)), o 8 (.lenS (.t 7)), o 9 (.bin .sub (.t 5) (.t 8)), o 1 (.mv (.t 9))])
  (.seq (.seq (.reg [o 10 (.mv (.t 1)), o 11 (.bin .lss (.t 10) (.c (.int .i64 0)))])
  (.cond (.t 11) (.seq (.reg [o 4 (.mv (.c (.int .i64 (-1))))])
   (.ret)) (.skip)))
  (.seq (.reg [o 12 (.faddr 1 (.t 2)), o 13 (.load none (.t 12)), o 14 (.mv (.t 1)), o 15 (.call 43 [(.t 13), (.t 14)]), o 1 (.mv (.t 15))])
  (.seq (.seq (.reg [o 16 (.mv (.t 1)), o 17 (.bin .lss (.t 16) (.c (.int .i64 0)))])
  (.cond (.t 17) (.seq (.reg [o 4 (.mv (.c (.int .i64 (-1))))])
   (.ret)) (.skip)))
  (.seq (.reg [o 18 (.faddr 2 (.t 2)), o 19 (.load none (.t 18)), o 20 (.mv (.t 1)), o 21 (.call 43 [(.t 19), (.t 20)]), o 1 (.mv (.t 21))])
  (.seq (.seq (.reg [o 22 (.mv (.t 1)), o 23 (.bin .lss (.t 22) (.c (.int .i64 0)))])
  (.cond (.t 23) (.seq (.reg [o 4 (.mv (.c (.int .i64 (-1))))])
   (.ret)) (.skip)))
  (.seq (.reg [o 24 (.mv (.t 1)), o 4 (.mv (.t 24))])
  (.ret)))))))),
  [.tmp 4]⟩
/- loop.example/g03011/laws.toFileS -/
def F156 : Fun := ⟨23,
  .seq (.reg [o 2 (.mv (.c .nsl))])
  (.seq (.reg [o 5 (.mv (.t 0)), o 6 (.lenL (.t 5)), o 7 (.mkslice 3 [(.str []), (.str []), (.int .i64 0)] 40 (.t 6) (.t 6)), o 3 (.mv (.t 7))])
  (.seq (.seq (.reg [o 4 (.mv (.c (.int .i64 0)))])
  (.block 0 (.loop (.seq (.seq (.reg [o 8 (.mv (.t 4)), o 9 (.mv (.t 0)), o 10 (.lenL (.t 9)), o 11 (.bin .lss (.t 8) (.t 10))])
    (.cond (.t 11) (.skip) (.exit 0)))
    (.seq (.block 1 (.reg [o 14 (.mv (.t 3)), o 15 (.mv (.t 4)), o 16 (.mv (.t 0)), o 17 (.mv (.t 4)), o 18 (.iaddr 3 (.t 16) (.t 17)), o 19 (.load (some 3) (.t 18)), o 20 (.call 174 [(.t 19)]), o 21 (.iaddr 3 (.t 14) (.t 15)), st (.store 3 (.t 21) (.t 20))]))
    (.reg [o 12 (.mv (.t 4)), o 13 (.bin .add (.t 12) (.c (.int .i64 1))), o 4 (.mv (.t 13))]))))))
  (.seq (.reg [o 22 (.mv (.t 3)), o 2 (.mv (.t 22))])
  (.ret)))),
  [.tmp 2]⟩
/- loop.example/g03011/laws.toRequest -/
def F157 : Fun := ⟨16,
  .seq (.reg [o 1 (.box 3 (.t 0)), o 2 (.new 3 [(.str []), .nsl, .nsl])])
  (.seq (.reg [o 3 (.new 3 [(.str []), .nsl, .nsl])])
  (.seq (.reg [o 4 (.faddr 0 (.t 1)), o 5 (.load none (.t 4)), o 6 (.faddr 0 (.t 3)), st (.store 1 (.t 6) (.t 5))])
  (.seq (.reg [o 7 (.faddr 1 (.t 1)), o 8 (.load none (.t 7)), o 9 (.call 45 [(.t 8)]), o 10 (.faddr 1 (.t 3)), st (.store 1 (.t 10) (.t 9))])
  (.seq (.reg [o 11 (.faddr 2 (.t 1)), o 12 (.load none (.t 11)), o 13 (.call 45 [(.t 12)]), o 14 (.faddr 2 (.t 3)), st (.store 1 (.t 14) (.t 13))])
  (.seq (.reg [o 15 (.load (some 3) (.t 3)), st (.store 3 (.t 2) (.t 15))])
  (.ret)))))),
  [.cell 2 (some 3)]⟩
/- loop.example/g03011/laws.eqFileS -/
def F158 : Fun := ⟨27,
  .seq (.reg [o 4 (.mv (.c (.bool false)))])
  (.seq (.seq (.reg [o 6 (.mv (.t 0)), o 7 (.lenL (.t 6)), o 8 (.mv (.t 1)), o 9 (.lenL (.t 8)), o 10 (.bin .neq (.t 7) (.t 9))])
  (.cond (.t 10) (.seq (.reg [o 4 (.mv (.c (.bool false)))])
   (.ret)) (.skip)))
  (.seq (.seq (.reg [o 5 (.mv (.c (.int .i64 0)))])
  (.block 0 (.loop (.seq (.seq (.reg [o 11 (.mv (.t 5)), o 12 (.mv (.t 0)), o 13 (.lenL (.t 12)), o 14 (.bin .lss (.t 11) (.t 13))])
    (.cond (.t 14) (.skip) (.exit 0)))
    (.seq (.block 1 (.seq (.reg [o 17 (.mv (.t 0)), o 18 (.mv (.t 5)), o 19 (.iaddr 3 (.t 17) (.t 18)), o 20 (.load (some 3) (.t 19)), o 21 (.mv (.t 1)), o 22 (.mv (.t 5)), o 23 (.iaddr 3 (.t 21) (.t 22)), o 24 (.load (some 3) (.t 23)), o 25 (.callF 175 [(.t 20), (.t 24)]), o 26 (.un .not (.t 25))])
     (.cond (.t 26) (.seq (.reg [o 4 (.mv (.c (.bool false)))])
      (.ret)) (.skip))))
    (.reg [o 15 (.mv (.t 5)), o 16 (.bin .add (.t 15) (.c (.int .i64 1))), o 5 (.mv (.t 16))]))))))
  (.seq (.reg [o 4 (.mv (.c (.bool true)))])
  (.ret)))),
  [.tmp 4]⟩
/- loop.example/g03011/laws.eqRequest -/
def F159 : Fun := ⟨22,
  .seq (.reg [o 2 (.box 3 (.t 0)), o 3 (.box 3 (.t 1)), o 4 (.mv (.c (.bool false)))])
  (.seq (.seq (.reg [o 5 (.faddr 0 (.t 2)), o 6 (.load none (.t 5)), o 7 (.faddr 0 (.t 3)), o 8 (.load none (.t 7)), o 9 (.bin .neq (.t 6) (.t 8))])
  (.cond (.t 9) (.seq (.reg [o 4 (.mv (.c (.bool false)))])
   (.ret)) (.skip)))
  (.seq (.seq (.reg [o 10 (.faddr 1 (.t 2)), o 11 (.load none (.t 10)), o 12 (.faddr 1 (.t 3)), o 13 (.load none (.t 12)), o 14 (.call 47 [(.t 11), (.t 13)]), o 15 (.un .not (.t 14))])
  (.cond (.t 15) (.seq (.reg [o 4 (.mv (.c (.bool false)))])
   (.ret)) (.skip)))
  (.seq (.seq (.reg [o 16 (.faddr 2 (.t 2)), o 17 (.load none (.t 16)), o 18 (.faddr 2 (.t 3)), o 19 (.load none (.t 18)), o 20 (.call 47 [(.t 17), (.t 19)]), o 21 (.un .not (.t 20))])
  (.cond (.t 21) (.seq (.reg [o 4 (.mv (.c (.bool false)))])
   (.ret)) (.skip)))
  (.seq (.reg [o 4 (.mv (.c (.bool true)))])
  (.ret))))),
  [.tmp 4]⟩
/- loop.example/g03011/spec.l14Letter -/
def F160 : Fun := ⟨15,
  .seq (.reg [o 2 (.mv (.c (.bool false)))])
  (.seq (.reg [o 3 (.mv (.t 0)), o 4 (.toInt .i64 (.t 3)), o 5 (.call 80 [(.t 4), (.c (.int .i64 97)), (.c (.int .i64 122))]), o 6 (.mv (.t 5)), og 7 (.mv (.t 0)) 6 false, og 8 (.toInt .i64 (.t 7)) 6 false, og 9 (.call 80 [(.t 8), (.c (.int .i64 65)), (.c (.int .i64 90))]) 6 false, o 10 (.pick (.t 6) (.c (.bool true)) (.t 9)), o 11 (.mv (.t 10)), og 12 (.mv (.t 0)) 11 false, og 13 (.bin .eql (.t 12) (.c (.int .u8 95))) 11 false, o 14 (.pick (.t 11) (.c (.bool true)) (.t 13)), o 2 (.mv (.t 14))])
  (.ret)),
  [.tmp 2]⟩
/- loop.example/g03011/spec.l14Digit -/
def F161 : Fun := ⟨6,
  .seq (.reg [o 2 (.mv (.c (.bool false)))])
  (.seq (.reg [o 3 (.mv (.t 0)), o 4 (.toInt .i64 (.t 3)), o 5 (.call 80 [(.t 4), (.c (.int .i64 48)), (.c (.int .i64 57))]), o 2 (.mv (.t 5))])
  (.ret)),
  [.tmp 2]⟩
/- loop.example/g03011/impl.isLetter -/
def F162 : Fun := ⟨17,
  .seq (.reg [o 2 (.mv (.c (.bool false)))])
  (.seq (.reg [o 3 (.mv (.t 0)), o 4 (.bin .geq (.t 3) (.c (.int .u8 65))), o 5 (.mv (.t 4)), og 6 (.mv (.t 0)) 5 true, og 7 (.bin .leq (.t 6) (.c (.int .u8 90))) 5 true, o 8 (.pick (.t 5) (.t 7) (.c (.bool false))), o 9 (.mv (.t 8)), og 10 (.mv (.t 0)) 9 false, og 11 (.bin .geq (.t 10) (.c (.int .u8 97))) 9 false, og 12 (.mv (.t 11)) 9 false, og 13 (.mv (.t 0)) 12 true, og 14 (.bin .leq (.t 13) (.c (.int .u8 122))) 12 true, og 15 (.pick (.t 12) (.t 14) (.c (.bool false))) 9 false, o 16 (.pick (.t 9) (.c (.bool true)) (.t 15)), o 2 (.mv (.t 16))])
  (.ret)),
  [.tmp 2]⟩
/- loop.example/g03011/impl.isDigit -/
def F163 : Fun := ⟨9,
  .seq (.reg [o 2 (.mv (.c (.bool false)))])
  (.seq (.reg [o 3 (.mv (.t 0)), o 4 (.bin .geq (.t 3) (.c (.int .u8 48))), o 5 (.mv (.t 4)), og 6 (.mv (.t 0)) 5 true, og 7 (.bin .leq (.t 6) (.c (.int .u8 57))) 5 true, o 8 (.pick (.t 5) (.t 7) (.c (.bool false))), o 2 (.mv (.t 8))])
  (.ret)),
  [.tmp 2]⟩
/- loop.example/g03011/spec.l4Plain -/
def F164 : Fun := ⟨32,
  .seq (.reg [o 2 (.mv (.c (.bool false)))])
  (.seq (.reg [o 4 (.mv (.t 0)), o 5 (.toInt .i64 (.t 4)), o 3 (.mv (.t 5))])
  (.seq (.reg [o 6 (.mv (.t 3)), o 7 (.call 80 [(.t 6), (.c (.int .i64 97)), (.c (.int .i64 122))]), o 8 (.mv (.t 7)), og 9 (.mv (.t 3)) 8 false, og 10 (.call 80 [(.t 9), (.c (.int .i64 65)), (.c (.int .i64 90))]) 8 false, o 11 (.pick (.t 8) (.c (.bool true)) (.t 10)), o 12 (.mv (.t 11)), og 13 (.mv (.t 3)) 12 false, og 14 (.call 80 [(.t 13), (.c (.int .i64 48)), (.c (.int .i64 57))]) 12 false, o 15 (.pick (.t 12) (.c (.bool true)) (.t 14)), o 16 (.mv (.t 15)), og 17 (.mv (.t 0)) 16 false, og 18 (.bin .eql (.t 17) (.c (.int .u8 45))) 16 false, o 19 (.pick (.t 16) (.c (.bool true)) (.t 18)), o 20 (.mv (.t 19)), og 21 (.mv (.t 0)) 20 false, og 22 (.bin .eql (.t 21) (.c (.int .u8 95))) 20 false, o 23 (.pick (.t 20) (.c (.bool true)) (.t 22)), o 24 (.mv (.t 23)), og 25 (.mv (.t 0)) 24 false, og 26 (.bin .eql (.t 25) (.c (.int .u8 46))) 24 false, o 27 (.pick (.t 24) (.c (.bool true)) (.t 26)), o 28 (.mv (.t 27)), og 29 (.mv (.t 0)) 28 false, og 30 (.bin .eql (.t 29) (.c (.int .u8 126))) 28 false, o 31 (.pick (.t 28) (.c (.bool true)) (.t 30)), o 2 (.mv (.t 31))])
  (.ret))),
  [.tmp 2]⟩
/- loop.example/g03011/spec.l4Hex -/
def F165 : Fun := ⟨15,
  .seq (.reg [o 2 (.mv (.c (.str [])))])
  (.seq (.reg [o 3 (.mv (.c (.str [48, 49, 50, 51, 52, 53, 54, 55, 56, 57, 65, 66, 67, 68, 69, 70])))])
  (.seq (.reg [o 4 (.mv (.t 3)), o 5 (.mv (.t 0)), o 6 (.bin .shr (.t 5) (.c (.int .u64 4))), o 7 (.bin .and (.t 6) (.c (.int .i64 15))), o 8 (.index (.t 4) (.t 7)), o 9 (.mv (.t 3)), o 10 (.mv (.t 0)), o 11 (.bin .and (.t 10) (.c (.int .i64 15))), o 12 (.index (.t 9) (.t 11)), o 13 (.bslice 1 [(.int .u8 0)] 2 [(0, (.t 8)), (1, (.t 12))]), o 14 (.toStr (.t 13)), o 2 (.mv (.t 14))])
  (.ret))),
  [.tmp 2]⟩
/- loop.example/g03011/impl.hexUpper -/
def F166 : Fun := ⟨5,
  .seq (.reg [o 2 (.mv (.c (.int .u8 0)))])
  (.seq (.reg [o 3 (.mv (.t 0)), o 4 (.index (.c (.str [48, 49, 50, 51, 52, 53, 54, 55, 56, 57, 65, 66, 67, 68, 69, 70])) (.t 3)), o 2 (.mv (.t 4))])
  (.ret)),
  [.tmp 2]⟩
/- loop.example/g03011/spec.l34Write -/
def F170 : Fun := ⟨108,
  .seq (.reg [o 8 (.mv (.t 0)), o 9 (.mv (.t 1)), o 10 (.nilck (.t 9)), o 11 (.faddr 1 (.t 10)), o 12 (.load none (.t 11)), o 13 (.iaddr 4 (.t 8) (.t 12)), o 14 (.load (some 4) (.t 13)), o 6 (.new 4 [(.int .i64 0), (.int .i64 0), (.int .i64 0), .nsl]), st (.store 4 (.t 6) (.t 14))])
  (.seq (.reg [o 15 (.mv (.t 1)), o 16 (.nilck (.t 15)), o 17 (.faddr 3 (.t 16)), o 18 (.load none (.t 17)), o 19 (.lenL (.t 18)), o 7 (.mv (.t 19))])
  (.seq (.block 0 (.seq (.reg [o 29 (.mv (.t 1)), o 30 (.nilck (.t 29)), o 31 (.faddr 4 (.t 30)), o 32 (.load none (.t 31)), o 33 (.bin .eql (.t 32) (.c (.int .i64 0))), o 34 (.mv (.t 33)), og 35 (.faddr 0 (.t 6)) 34 true, og 36 (.load none (.t 35)) 34 true, og 37 (.bin .rem (.t 36) (.c (.int .i64 2))) 34 true, og 38 (.bin .eql (.t 37) (.c (.int .i64 0))) 34 true, o 39 (.pick (.t 34) (.t 38) (.c (.bool false))), o 28 (.mv (.t 39))])
   (.cond (.t 28) (.seq (.reg [o 40 (.faddr 0 (.t 6)), o 41 (.load none (.t 40)), o 42 (.bin .add (.t 41) (.c (.int .i64 1))), o 43 (.faddr 0 (.t 6)), st (.store 1 (.t 43) (.t 42))])
    (.seq (.reg [o 44 (.mv (.t 2)), o 45 (.faddr 1 (.t 6)), st (.store 1 (.t 45) (.t 44))])
    (.reg [o 46 (.mv (.t 1)), o 47 (.nilck (.t 46)), o 48 (.faddr 4 (.t 47)), st (.store 1 (.t 48) (.c (.int .i64 1)))]))) (.seq (.reg [o 50 (.mv (.t 1)), o 51 (.nilck (.t 50)), o 52 (.faddr 4 (.t 51)), o 53 (.load none (.t 52)), o 54 (.bin .neq (.t 53) (.c (.int .i64 1))), o 49 (.mv (.t 54))])
    (.cond (.t 49) (.skip) (.seq (.reg [o 56 (.mv (.t 1)), o 57 (.nilck (.t 56)), o 58 (.faddr 5 (.t 57)), o 59 (.load none (.t 58)), o 60 (.bin .eql (.t 59) (.c (.int .i64 0))), o 55 (.mv (.t 60))])
     (.cond (.t 55) (.seq (.reg [o 61 (.mv (.t 1)), o 62 (.nilck (.t 61)), o 63 (.faddr 2 (.t 62)), o 64 (.load none (.t 63)), o 65 (.faddr 2 (.t 6)), st (.store 1 (.t 65) (.t 64))])
      (.seq (.reg [o 66 (.faddr 3 (.t 6)), st (.store 1 (.t 66) (.c .nsl))])
      (.reg [o 67 (.mv (.t 1)), o 68 (.nilck (.t 67)), o 69 (.faddr 5 (.t 68)), st (.store 1 (.t 69) (.c (.int .i64 1)))]))) (.seq (.reg [o 71 (.mv (.t 1)), o 72 (.nilck (.t 71)), o 73 (.faddr 5 (.t 72)), o 74 (.load none (.t 73)), o 75 (.mv (.t 7)), o 76 (.bin .leq (.t 74) (.t 75)), o 70 (.mv (.t 76))])
      (.cond (.t 70) (.seq (.reg [o 77 (.faddr 3 (.t 6)), o 78 (.load none (.t 77)), o 79 (.mv (.t 1)), o 80 (.nilck (.t 79)), o 81 (.faddr 3 (.t 80)), o 82 (.load none (.t 81)), o 83 (.mv (.t 1)), o 84 (.nilck (.t 83)), o 85 (.faddr 5 (.t 84)), o 86 (.load none (.t 85)), o 87 (.bin .sub (.t 86) (.c (.int .i64 1))), o 88 (.iaddr 1 (.t 82) (.t 87)), o 89 (.load none (.t 88)), o 90 (.bslice 1 [(.int .i64 0)] 1 [(0, (.t 89))]), o 91 (.append 1 8 (.t 78) (.t 90)), o 92 (.faddr 3 (.t 6)), st (.store 1 (.t 92) (.t 91))])
       (.reg [o 93 (.mv (.t 1)), o 94 (.mv (.t 1)), o 95 (.nilck (.t 94)), o 96 (.faddr 5 (.t 95)), o 97 (.load none (.t 96)), o 98 (.bin .add (.t 97) (.c (.int .i64 1))), o 99 (.nilck (.t 93)), o 100 (.faddr 5 (.t 99)), st (.store 1 (.t 100) (.t 98))])) (.seq (.reg [o 20 (.faddr 0 (.t 6)), o 21 (.load none (.t 20)), o 22 (.bin .add (.t 21) (.c (.int .i64 1))), o 23 (.faddr 0 (.t 6)), st (.store 1 (.t 23) (.t 22))])
       (.seq (.reg [o 24 (.faddr 1 (.t 6)), st (.store 1 (.t 24) (.c (.int .i64 0)))])
       (.reg [o 25 (.mv (.t 1)), o 26 (.nilck (.t 25)), o 27 (.faddr 4 (.t 26)), st (.store 1 (.t 27) (.c (.int .i64 2)))]))))))))))))
  (.reg [o 101 (.mv (.t 0)), o 102 (.mv (.t 1)), o 103 (.nilck (.t 102)), o 104 (.faddr 1 (.t 103)), o 105 (.load none (.t 104)), o 106 (.load (some 4) (.t 6)), o 107 (.iaddr 4 (.t 101) (.t 105)), st (.store 4 (.t 107) (.t 106))]))),
  []⟩
/- loop.example/g03011/spec.l34Read -/
def F171 : Fun := ⟨123,
  .seq (.reg [o 5 (.mv (.t 0)), o 6 (.mv (.t 1)), o 7 (.nilck (.t 6)), o 8 (.faddr 1 (.t 7)), o 9 (.load none (.t 8)), o 10 (.iaddr 4 (.t 5) (.t 9)), o 11 (.load (some 4) (.t 10)), o 4 (.new 4 [(.int .i64 0), (.int .i64 0), (.int .i64 0), .nsl]), st (.store 4 (.t 4) (.t 11))])
  (.block 0 (.seq (.reg [o 16 (.mv (.t 1)), o 17 (.nilck (.t 16)), o 18 (.faddr 4 (.t 17)), o 19 (.load none (.t 18)), o 20 (.bin .eql (.t 19) (.c (.int .i64 0))), o 21 (.mv (.t 20)), og 22 (.faddr 0 (.t 4)) 21 true, og 23 (.load none (.t 22)) 21 true, og 24 (.bin .rem (.t 23) (.c (.int .i64 2))) 21 true, og 25 (.bin .eql (.t 24) (.c (.int .i64 0))) 21 true, o 26 (.pick (.t 21) (.t 25) (.c (.bool false))), o 15 (.mv (.t 26))])
   (.cond (.t 15) (.seq (.reg [o 27 (.mv (.t 1)), o 28 (.faddr 0 (.t 4)), o 29 (.load none (.t 28)), o 30 (.nilck (.t 27)), o 31 (.faddr 6 (.t 30)), st (.store 1 (.t 31) (.t 29))])
    (.reg [o 32 (.mv (.t 1)), o 33 (.nilck (.t 32)), o 34 (.faddr 4 (.t 33)), st (.store 1 (.t 34) (.c (.int .i64 1)))])) (.seq (.reg [o 36 (.mv (.t 1)), o 37 (.nilck (.t 36)), o 38 (.faddr 4 (.t 37)), o 39 (.load none (.t 38)), o 40 (.bin .eql (.t 39) (.c (.int .i64 0))), o 35 (.mv (.t 40))])
    (.cond (.t 35) (.reg [o 41 (.mv (.t 1)), o 42 (.nilck (.t 41)), o 43 (.faddr 4 (.t 42)), st (.store 1 (.t 43) (.c (.int .i64 3)))]) (.seq (.reg [o 45 (.mv (.t 1)), o 46 (.nilck (.t 45)), o 47 (.faddr 4 (.t 46)), o 48 (.load none (.t 47)), o 49 (.bin .neq (.t 48) (.c (.int .i64 1))), o 44 (.mv (.t 49))])
     (.cond (.t 44) (.skip) (.seq (.reg [o 51 (.mv (.t 1)), o 52 (.nilck (.t 51)), o 53 (.faddr 5 (.t 52)), o 54 (.load none (.t 53)), o 55 (.bin .eql (.t 54) (.c (.int .i64 0))), o 56 (.mv (.t 55)), og 57 (.faddr 2 (.t 4)) 56 true, og 58 (.load none (.t 57)) 56 true, og 59 (.mv (.t 1)) 56 true, og 60 (.nilck (.t 59)) 56 true, og 61 (.faddr 2 (.t 60)) 56 true, og 62 (.load none (.t 61)) 56 true, og 63 (.bin .neq (.t 58) (.t 62)) 56 true, o 64 (.pick (.t 56) (.t 63) (.c (.bool false))), o 50 (.mv (.t 64))])
      (.cond (.t 50) (.reg [o 65 (.mv (.t 1)), o 66 (.nilck (.t 65)), o 67 (.faddr 4 (.t 66)), st (.store 1 (.t 67) (.c (.int .i64 3)))]) (.seq (.reg [o 69 (.mv (.t 1)), o 70 (.nilck (.t 69)), o 71 (.faddr 5 (.t 70)), o 72 (.load none (.t 71)), o 73 (.bin .eql (.t 72) (.c (.int .i64 0))), o 68 (.mv (.t 73))])
       (.cond (.t 68) (.reg [o 74 (.mv (.t 1)), o 75 (.nilck (.t 74)), o 76 (.faddr 5 (.t 75)), st (.store 1 (.t 76) (.c (.int .i64 1)))]) (.seq (.reg [o 78 (.mv (.t 1)), o 79 (.nilck (.t 78)), o 80 (.faddr 5 (.t 79)), o 81 (.load none (.t 80)), o 82 (.faddr 3 (.t 4)), o 83 (.load none (.t 82)), o 84 (.lenL (.t 83)), o 85 (.bin .leq (.t 81) (.t 84)), o 77 (.mv (.t 85))])
        (.cond (.t 77) (.seq (.reg [o 86 (.mv (.t 1)), o 87 (.mv (.t 1)), o 88 (.nilck (.t 87)), o 89 (.faddr 3 (.t 88)), o 90 (.load none (.t 89)), o 91 (.faddr 3 (.t 4)), o 92 (.load none (.t 91)), o 93 (.mv (.t 1)), o 94 (.nilck (.t 93)), o 95 (.faddr 5 (.t 94)), o 96 (.load none (.t 95)), o 97 (.bin .sub (.t 96) (.c (.int .i64 1))), o 98 (.iaddr 1 (.t 92) (.t 97)), o 99 (.load none (.t 98)), o 100 (.bslice 1 [(.int .i64 0)] 1 [(0, (.t 99))]), o 101 (.append 1 8 (.t 90) (.t 100)), o 102 (.nilck (.t 86)), o 103 (.faddr 3 (.t 102)), st (.store 1 (.t 103) (.t 101))])
         (.reg [o 104 (.mv (.t 1)), o 105 (.mv (.t 1)), o 106 (.nilck (.t 105)), o 107 (.faddr 5 (.t 106)), o 108 (.load none (.t 107)), o 109 (.bin .add (.t 108) (.c (.int .i64 1))), o 110 (.nilck (.t 104)), o 111 (.faddr 5 (.t 110)), st (.store 1 (.t 111) (.t 109))])) (.seq (.reg [o 113 (.faddr 0 (.t 4)), o 114 (.load none (.t 113)), o 115 (.mv (.t 1)), o 116 (.nilck (.t 115)), o 117 (.faddr 6 (.t 116)), o 118 (.load none (.t 117)), o 119 (.bin .eql (.t 114) (.t 118)), o 112 (.mv (.t 119))])
         (.cond (.t 112) (.reg [o 120 (.mv (.t 1)), o 121 (.nilck (.t 120)), o 122 (.faddr 4 (.t 121)), st (.store 1 (.t 122) (.c (.int .i64 2)))]) (.reg [o 12 (.mv (.t 1)), o 13 (.nilck (.t 12)), o 14 (.faddr 4 (.t 13)), st (.store 1 (.t 14) (.c (.int .i64 3)))])))))))))))))))),
  []⟩
/- loop.example/g03011/spec.l1Num -/
def F172 : Fun := ⟨23,
  .seq (.reg [o 2 (.mv (.c (.int .i64 0)))])
  (.seq (.seq (.reg [o 3 (.mv (.t 0)), o 4 (.call 105 [(.t 3), (.c (.int .i64 4))])])
  (.block 0 (.seq (.reg [o 6 (.bin .eql (.t 4) (.c (.int .i64 0))), o 5 (.mv (.t 6))])
   (.cond (.t 5) (.seq (.reg [o 7 (.mv (.t 0)), o 8 (.call 105 [(.t 7), (.c (.int .i64 2000))]), o 2 (.mv (.t 8))])
    (.ret)) (.seq (.reg [o 10 (.bin .eql (.t 4) (.c (.int .i64 1))), o 9 (.mv (.t 10))])
    (.cond (.t 9) (.seq (.reg [o 11 (.mv (.t 0)), o 12 (.bslice 1 [(.int .i64 0)] 9 [(0, (.c (.int .i64 0))), (1, (.c (.int .i64 1))), (2, (.c (.int .i64 127))), (3, (.c (.int .i64 128))), (4, (.c (.int .i64 999999999))), (5, (.c (.int .i64 1000000000))), (6, (.c (.int .i64 1000000001))), (7, (.c (.int .i64 2147483647))), (8, (.c (.int .i64 1000000000000)))]), o 13 (.call 94 [(.t 11), (.t 12)]), o 2 (.mv (.t 13))])
     (.ret)) (.seq (.reg [o 15 (.bin .eql (.t 4) (.c (.int .i64 2))), o 14 (.mv (.t 15))])
     (.cond (.t 14) (.seq (.reg [o 16 (.mv (.t 0)), o 17 (.call 105 [(.t 16), (.c (.int .i64 1000000))]), o 18 (.mv (.t 0)), o 19 (.call 105 [(.t 18), (.c (.int .i64 1000000))]), o 20 (.bin .mul (.t 17) (.t 19)), o 2 (.mv (.t 20))])
      (.ret)) (.skip)))))))))
  (.seq (.reg [o 21 (.mv (.t 0)), o 22 (.call 105 [(.t 21), (.c (.int .i64 20))]), o 2 (.mv (.t 22))])
  (.ret))),
  [.tmp 2]⟩
/- loop.example/g03011/laws.szFile -/
def F173 : Fun := ⟨20,
  .seq (.reg [o 2 (.box 3 (.t 0)), o 4 (.mv (.c (.int .i64 0)))])
  (.seq (.reg [o 5 (.mv (.t 1)), o 6 (.faddr 0 (.t 2)), o 7 (.load none (.t 6)), o 8 (.lenS (.t 7)), o 9 (.bin .sub (.t 5) (.t 8)), o 1 (.mv (.t 9))])
  (.seq (.seq (.reg [o 10 (.mv (.t 1)), o 11 (.bin .lss (.t 10) (.c (.int .i64 0)))])
  (.cond (.t 11) (.seq (.reg [o 4 (.mv (.c (.int .i64 (-1))))])
   (.ret)) (.skip)))
  (.seq (.reg [o 12 (.mv (.t 1)), o 13 (.faddr 1 (.t 2)), o 14 (.load none (.t 13)), o 15 (.lenS (.t 14)), o 16 (.bin .sub (.t 12) (.t 15)), o 1 (.mv (.t 16))])
  (.seq (.seq (.reg [o 17 (.mv (.t 1)), o 18 (.bin .lss (.t 17) (.c (.int .i64 0)))])
  (.cond (.t 18) (.seq (.reg [o 4 (.mv (.c (.int .i64 (-1))))])
   (.ret)) (.skip)))
  (.seq (.reg [o 19 (.mv (.t 1)), o 4 (.mv (.t 19))])
  (.ret)))))),
  [.tmp 4]⟩
/- loop.example/g03011/laws.toFile -/
def F174 : Fun := ⟨14,
  .seq (.reg [o 1 (.box 3 (.t 0)), o 2 (.new 3 [(.str []), (.str []), (.int .i64 0)])])
  (.seq (.reg [o 3 (.new 3 [(.str []), (.str []), (.int .i64 0)])])
  (.seq (.reg [o 4 (.faddr 0 (.t 1)), o 5 (.load none (.t 4)), o 6 (.faddr 0 (.t 3)), st (.store 1 (.t 6) (.t 5))])
  (.seq (.reg [o 7 (.faddr 1 (.t 1)), o 8 (.load none (.t 7)), o 9 (.faddr 1 (.t 3)), st (.store 1 (.t 9) (.t 8))])
  (.seq (.reg [o 10 (.faddr 2 (.t 1)), o 11 (.load none (.t 10)), o 12 (.faddr 2 (.t 3)), st (.store 1 (.t 12) (.t 11))])
  (.seq (.reg [o 13 (.load (some 3) (.t 3)), st (.store 3 (.t 2) (.t 13))])
  (.ret)))))),
  [.cell 2 (some 3)]⟩
/- loop.example/g03011/laws.eqFile -/
def F175 : Fun := ⟨20,
  .seq (.reg [o 2 (.box 3 (.t 0)), o 3 (.box 3 (.t 1)), o 4 (.mv (.c (.bool false)))])
  (.seq (.seq (.reg [o 5 (.faddr 0 (.t 2)), o 6 (.load none (.t 5)), o 7 (.faddr 0 (.t 3)), o 8 (.load none (.t 7)), o 9 (.bin .neq (.t 6) (.t 8))])
  (.cond (.t 9) (.seq (.reg [o 4 (.mv (.c (.bool false)))])
   (.ret)) (.skip)))
  (.seq (.seq (.reg [o 10 (.faddr 1 (.t 2)), o 11 (.load none (.t 10)), o 12 (.faddr 1 (.t 3)), o 13 (.load none (.t 12)), o 14 (.bin .neq (.t 11) (.t 13))])
  (.cond (.t 14) (.seq (.reg [o 4 (.mv (.c (.bool false)))])
   (.ret)) (.skip)))
  (.seq (.seq (.reg [o 15 (.faddr 2 (.t 2)), o 16 (.load none (.t 15)), o 17 (.faddr 2 (.t 3)), o 18 (.load none (.t 17)), o 19 (.bin .neq (.t 16) (.t 18))])
  (.cond (.t 19) (.seq (.reg [o 4 (.mv (.c (.bool false)))])
   (.ret)) (.skip)))
  (.seq (.reg [o 4 (.mv (.c (.bool true)))])
  (.ret))))),
  [.tmp 4]⟩

theorem c3 : compF Try.prog 3 = some F3 := by kernel_rfl
theorem c4 : compF Try.prog 4 = some F4 := by kernel_rfl
theorem c5 : compF Try.prog 5 = some F5 := by kernel_rfl
theorem c6 : compF Try.prog 6 = some F6 := by kernel_rfl
theorem c7 : compF Try.prog 7 = some F7 := by kernel_rfl
theorem c8 : compF Try.prog 8 = some F8 := by kernel_rfl
theorem c9 : compF Try.prog 9 = some F9 := by kernel_rfl
theorem c10 : compF Try.prog 10 = some F10 := by kernel_rfl
theorem c11 : compF Try.prog 11 = some F11 := by kernel_rfl
theorem c12 : compF Try.prog 12 = some F12 := by kernel_rfl
theorem c13 : compF Try.prog 13 = some F13 := by kernel_rfl
theorem c14 : compF Try.prog 14 = some F14 := by kernel_rfl
theorem c15 : compF Try.prog 15 = some F15 := by kernel_rfl
theorem c16 : compF Try.prog 16 = some F16 := by kernel_rfl
theorem c17 : compF Try.prog 17 = some F17 := by kernel_rfl
theorem c18 : compF Try.prog 18 = some F18 := by kernel_rfl
theorem c19 : compF Try.prog 19 = some F19 := by kernel_rfl
theorem c20 : compF Try.prog 20 = some F20 := by kernel_rfl
theorem c21 : compF Try.prog 21 = some F21 := by kernel_rfl
theorem c22 : compF Try.prog 22 = some F22 := by kernel_rfl
theorem c23 : compF Try.prog 23 = some F23 := by kernel_rfl
theorem c24 : compF Try.prog 24 = some F24 := by kernel_rfl
theorem c25 : compF Try.prog 25 = some F25 := by kernel_rfl
theorem c26 : compF Try.prog 26 = some F26 := by kernel_rfl
theorem c27 : compF Try.prog 27 = some F27 := by kernel_rfl
theorem c28 : compF Try.prog 28 = some F28 := by kernel_rfl
theorem c29 : compF Try.prog 29 = some F29 := by kernel_rfl
theorem c30 : compF Try.prog 30 = some F30 := by kernel_rfl
theorem c31 : compF Try.prog 31 = some F31 := by kernel_rfl
theorem c32 : compF Try.prog 32 = some F32 := by kernel_rfl
theorem c33 : compF Try.prog 33 = some F33 := by kernel_rfl
theorem c34 : compF Try.prog 34 = some F34 := by kernel_rfl
theorem c35 : compF Try.prog 35 = some F35 := by kernel_rfl
theorem c36 : compF Try.prog 36 = some F36 := by kernel_rfl
theorem c37 : compF Try.prog 37 = some F37 := by kernel_rfl
theorem c38 : compF Try.prog 38 = some F38 := by kernel_rfl
theorem c39 : compF Try.prog 39 = some F39 := by kernel_rfl
theorem c40 : compF Try.prog 40 = some F40 := by kernel_rfl
theorem c41 : compF Try.prog 41 = some F41 := by kernel_rfl
theorem c42 : compF Try.prog 42 = some F42 := by kernel_rfl
theorem c43 : compF Try.prog 43 = some F43 := by kernel_rfl
theorem c44 : compF Try.prog 44 = some F44 := by kernel_rfl
theorem c45 : compF Try.prog 45 = some F45 := by kernel_rfl
theorem c46 : compF Try.prog 46 = some F46 := by kernel_rfl
theorem c47 : compF Try.prog 47 = some F47 := by kernel_rfl
theorem c48 : compF Try.prog 48 = some F48 := by kernel_rfl
theorem c49 : compF Try.prog 49 = some F49 := by kernel_rfl
theorem c50 : compF Try.prog 50 = some F50 := by kernel_rfl
theorem c51 : compF Try.prog 51 = some F51 := by kernel_rfl
theorem c52 : compF Try.prog 52 = some F52 := by kernel_rfl
theorem c53 : compF Try.prog 53 = some F53 := by kernel_rfl
theorem c54 : compF Try.prog 54 = some F54 := by kernel_rfl
theorem c55 : compF Try.prog 55 = some F55 := by kernel_rfl
theorem c56 : compF Try.prog 56 = some F56 := by kernel_rfl
theorem c57 : compF Try.prog 57 = some F57 := by kernel_rfl
theorem c58 : compF Try.prog 58 = some F58 := by kernel_rfl
theorem c59 : compF Try.prog 59 = some F59 := by kernel_rfl
theorem c60 : compF Try.prog 60 = some F60 := by kernel_rfl
theorem c61 : compF Try.prog 61 = some F61 := by kernel_rfl
theorem c62 : compF Try.prog 62 = some F62 := by kernel_rfl
theorem c63 : compF Try.prog 63 = some F63 := by kernel_rfl
theorem c64 : compF Try.prog 64 = some F64 := by kernel_rfl
theorem c65 : compF Try.prog 65 = some F65 := by kernel_rfl
theorem c66 : compF Try.prog 66 = some F66 := by kernel_rfl
theorem c67 : compF Try.prog 67 = some F67 := by kernel_rfl
theorem c68 : compF Try.prog 68 = some F68 := by kernel_rfl
theorem c69 : compF Try.prog 69 = some F69 := by kernel_rfl
theorem c70 : compF Try.prog 70 = some F70 := by kernel_rfl
theorem c71 : compF Try.prog 71 = some F71 := by kernel_rfl
theorem c72 : compF Try.prog 72 = some F72 := by kernel_rfl
theorem c73 : compF Try.prog 73 = some F73 := by kernel_rfl
theorem c74 : compF Try.prog 74 = some F74 := by kernel_rfl
theorem c75 : compF Try.prog 75 = some F75 := by kernel_rfl
theorem c76 : compF Try.prog 76 = some F76 := by kernel_rfl
theorem c77 : compF Try.prog 77 = some F77 := by kernel_rfl
theorem c78 : compF Try.prog 78 = some F78 := by kernel_rfl
theorem c79 : compF Try.prog 79 = some F79 := by kernel_rfl
theorem c80 : compF Try.prog 80 = some F80 := by kernel_rfl
theorem c81 : compF Try.prog 81 = some F81 := by kernel_rfl
theorem c82 : compF Try.prog 82 = some F82 := by kernel_rfl
theorem c83 : compF Try.prog 83 = some F83 := by kernel_rfl
theorem c84 : compF Try.prog 84 = some F84 := by kernel_rfl
theorem c85 : compF Try.prog 85 = some F85 := by kernel_rfl
theorem c86 : compF Try.prog 86 = some F86 := by kernel_rfl
theorem c87 : compF Try.prog 87 = some F87 := by kernel_rfl
theorem c88 : compF Try.prog 88 = some F88 := by kernel_rfl
theorem c89 : compF Try.prog 89 = some F89 := by kernel_rfl
theorem c90 : compF Try.prog 90 = some F90 := by kernel_rfl
theorem c91 : compF Try.prog 91 = some F91 := by kernel_rfl
theorem c92 : compF Try.prog 92 = some F92 := by kernel_rfl
theorem c93 : compF Try.prog 93 = some F93 := by kernel_rfl
theorem c94 : compF Try.prog 94 = some F94 := by kernel_rfl
theorem c95 : compF Try.prog 95 = some F95 := by kernel_rfl
theorem c96 : compF Try.prog 96 = some F96 := by kernel_rfl
theorem c97 : compF Try.prog 97 = some F97 := by kernel_rfl
theorem c98 : compF Try.prog 98 = some F98 := by kernel_rfl
theorem c99 : compF Try.prog 99 = some F99 := by kernel_rfl
theorem c100 : compF Try.prog 100 = some F100 := by kernel_rfl
theorem c101 : compF Try.prog 101 = some F101 := by kernel_rfl
theorem c102 : compF Try.prog 102 = some F102 := by kernel_rfl
theorem c103 : compF Try.prog 103 = some F103 := by kernel_rfl
theorem c104 : compF Try.prog 104 = some F104 := by kernel_rfl
theorem c105 : compF Try.prog 105 = some F105 := by kernel_rfl
theorem c106 : compF Try.prog 106 = some F106 := by kernel_rfl
theorem c107 : compF Try.prog 107 = some F107 := by kernel_rfl
theorem c108 : compF Try.prog 108 = some F108 := by kernel_rfl
theorem c109 : compF Try.prog 109 = some F109 := by kernel_rfl
theorem c110 : compF Try.prog 110 = some F110 := by kernel_rfl
theorem c111 : compF Try.prog 111 = some F111 := by kernel_rfl
theorem c112 : compF Try.prog 112 = some F112 := by kernel_rfl
theorem c113 : compF Try.prog 113 = some F113 := by kernel_rfl
theorem c114 : compF Try.prog 114 = some F114 := by kernel_rfl
theorem c115 : compF Try.prog 115 = some F115 := by kernel_rfl
theorem c116 : compF Try.prog 116 = some F116 := by kernel_rfl
theorem c117 : compF Try.prog 117 = some F117 := by kernel_rfl
theorem c118 : compF Try.prog 118 = some F118 := by kernel_rfl
theorem c119 : compF Try.prog 119 = some F119 := by kernel_rfl
theorem c120 : compF Try.prog 120 = some F120 := by kernel_rfl
theorem c121 : compF Try.prog 121 = some F121 := by kernel_rfl
theorem c122 : compF Try.prog 122 = some F122 := by kernel_rfl
theorem c123 : compF Try.prog 123 = some F123 := by kernel_rfl
theorem c124 : compF Try.prog 124 = some F124 := by kernel_rfl
theorem c125 : compF Try.prog 125 = some F125 := by kernel_rfl
theorem c126 : compF Try.prog 126 = some F126 := by kernel_rfl
theorem c127 : compF Try.prog 127 = some F127 := by kernel_rfl
theorem c128 : compF Try.prog 128 = some F128 := by kernel_rfl
theorem c129 : compF Try.prog 129 = some F129 := by kernel_rfl
theorem c130 : compF Try.prog 130 = some F130 := by kernel_rfl
theorem c131 : compF Try.prog 131 = some F131 := by kernel_rfl
theorem c132 : compF Try.prog 132 = some F132 := by kernel_rfl
theorem c133 : compF Try.prog 133 = some F133 := by kernel_rfl
theorem c134 : compF Try.prog 134 = some F134 := by kernel_rfl
theorem c135 : compF Try.prog 135 = some F135 := by kernel_rfl
theorem c137 : compF Try.prog 137 = some F137 := by kernel_rfl
theorem c138 : compF Try.prog 138 = some F138 := by kernel_rfl
theorem c139 : compF Try.prog 139 = some F139 := by kernel_rfl
theorem c140 : compF Try.prog 140 = some F140 := by kernel_rfl
theorem c141 : compF Try.prog 141 = some F141 := by kernel_rfl
theorem c142 : compF Try.prog 142 = some F142 := by kernel_rfl
theorem c143 : compF Try.prog 143 = some F143 := by kernel_rfl
theorem c144 : compF Try.prog 144 = some F144 := by kernel_rfl
theorem c145 : compF Try.prog 145 = some F145 := by kernel_rfl
theorem c146 : compF Try.prog 146 = some F146 := by kernel_rfl
theorem c147 : compF Try.prog 147 = some F147 := by kernel_rfl
theorem c148 : compF Try.prog 148 = some F148 := by kernel_rfl
theorem c149 : compF Try.prog 149 = some F149 := by kernel_rfl
theorem c150 : compF Try.prog 150 = some F150 := by kernel_rfl
theorem c151 : compF Try.prog 151 = some F151 := by kernel_rfl
theorem c152 : compF Try.prog 152 = some F152 := by kernel_rfl
theorem c153 : compF Try.prog 153 = some F153 := by kernel_rfl
theorem c154 : compF Try.prog 154 = some F154 := by kernel_rfl
theorem c155 : compF Try.prog 155 = some F155 := by kernel_rfl
theorem c156 : compF Try.prog 156 = some F156 := by kernel_rfl
theorem c157 : compF Try.prog 157 = some F157 := by kernel_rfl
theorem c158 : compF Try.prog 158 = some F158 := by kernel_rfl
theorem c159 : compF Try.prog 159 = some F159 := by kernel_rfl
theorem c160 : compF Try.prog 160 = some F160 := by kernel_rfl
theorem c161 : compF Try.prog 161 = some F161 := by kernel_rfl
theorem c162 : compF Try.prog 162 = some F162 := by kernel_rfl
theorem c163 : compF Try.prog 163 = some F163 := by kernel_rfl
theorem c164 : compF Try.prog 164 = some F164 := by kernel_rfl
theorem c165 : compF Try.prog 165 = some F165 := by kernel_rfl
theorem c166 : compF Try.prog 166 = some F166 := by kernel_rfl
theorem c170 : compF Try.prog 170 = some F170 := by kernel_rfl
theorem c171 : compF Try.prog 171 = some F171 := by kernel_rfl
theorem c172 : compF Try.prog 172 = some F172 := by kernel_rfl
theorem c173 : compF Try.prog 173 = some F173 := by kernel_rfl
theorem c174 : compF Try.prog 174 = some F174 := by kernel_rfl
theorem c175 : compF Try.prog 175 = some F175 := by kernel_rfl
end A
end Go.Proofs.Ytgiiipbpadgcgaa
