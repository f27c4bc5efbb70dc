import Derived.Test.YtfcimcoanlgldaaRows
import Derived.Test.YtfcimcoanlgldaaB05

/-
  The functions of the seat in the small language: printed by a program (wip/tools/irdump.lean), each held against the model's code. No condition.
-/


namespace Go.Proofs.Ytfcimcoanlgldaa
namespace A
set_option linter.unusedVariables false
/- loop.example/g03011/laws.FnExactRunActors -/
def F3 : Fun := ⟨156,
  .seq (.reg [o 6 (.mv (.c (.bool false)))])
  (.seq (.seq (.reg [o 20 (.mv (.t 2)), o 21 (.lenL (.t 20)), o 22 (.bin .gtr (.t 21) (.c (.int .i64 1048576)))])
  (.cond (.t 22) (.seq (.reg [o 6 (.mv (.c (.bool true)))])
   (.ret)) (.skip)))
  (.seq (.reg [o 7 (.mv (.c (.int .i64 1048576)))])
  (.seq (.reg [o 23 (.mv (.t 0)), o 24 (.mv (.t 7)), o 25 (.call 6 [(.t 23), (.t 24)]), o 7 (.mv (.t 25))])
  (.seq (.seq (.reg [o 26 (.mv (.t 7)), o 27 (.bin .lss (.t 26) (.c (.int .i64 0)))])
  (.cond (.t 27) (.seq (.reg [o 6 (.mv (.c (.bool true)))])
   (.ret)) (.skip)))
  (.seq (.reg [o 28 (.mv (.t 1)), o 29 (.mv (.t 7)), o 30 (.call 7 [(.t 28), (.t 29)]), o 7 (.mv (.t 30))])
  (.seq (.seq (.reg [o 31 (.mv (.t 7)), o 32 (.bin .lss (.t 31) (.c (.int .i64 0)))])
  (.cond (.t 32) (.seq (.reg [o 6 (.mv (.c (.bool true)))])
   (.ret)) (.skip)))
  (.seq (.reg [o 34 (.mv (.t 0)), o 35 (.call 9 [(.t 34)]), o 36 (.mv (.t 1)), o 37 (.call 10 [(.t 36)]), o 38 (.mv (.t 2)), o 39 (.call 11 [(.t 38)]), o 40 (.call 8 [(.t 35), (.t 37), (.t 39)]), o 33 (.mv (.t 40)), o 41 (.extract (.t 33) 0), o 42 (.extract (.t 33) 1), o 8 (.mv (.t 41)), o 9 (.mv (.t 42))])
  (.seq (.reg [o 43 (.mv (.t 0)), o 44 (.call 9 [(.t 43)]), o 10 (.mv (.t 44))])
  (.seq (.reg [o 45 (.mv (.t 1)), o 46 (.call 10 [(.t 45)]), o 11 (.mv (.t 46))])
  (.seq (.reg [o 47 (.mv (.t 2)), o 48 (.call 11 [(.t 47)]), o 12 (.mv (.t 48))])
  (.seq (.reg [o 50 (.mv (.t 10)), o 51 (.mv (.t 11)), o 52 (.mv (.t 12)), o 53 (.call 12 [(.t 50), (.t 51), (.t 52)]), o 49 (.mv (.t 53)), o 54 (.extract (.t 49) 0), o 55 (.extract (.t 49) 1), o 13 (.mv (.t 54)), o 14 (.mv (.t 55))])
  (.seq (.seq (.reg [o 56 (.mv (.t 13)), o 57 (.mv (.t 8)), o 58 (.call 13 [(.t 56), (.t 57)]), o 59 (.un .not (.t 58)), o 60 (.mv (.t 59)), og 61 (.mv (.t 14)) 60 false, og 62 (.mv (.t 9)) 60 false, og 63 (.call 14 [(.t 61), (.t 62)]) 60 false, og 64 (.un .not (.t 63)) 60 false, o 65 (.pick (.t 60) (.c (.bool true)) (.t 64))])
  (.cond (.t 65) (.seq (.reg [o 6 (.mv (.c (.bool false)))])
   (.ret)) (.skip)))
  (.seq (.seq (.reg [o 66 (.mv (.t 10)), o 67 (.mv (.t 0)), o 68 (.call 9 [(.t 67)]), o 69 (.call 13 [(.t 66), (.t 68)]), o 70 (.un .not (.t 69))])
  (.cond (.t 70) (.seq (.reg [o 6 (.mv (.c (.bool false)))])
   (.ret)) (.skip)))
  (.seq (.seq (.reg [o 71 (.mv (.t 11)), o 72 (.mv (.t 1)), o 73 (.call 10 [(.t 72)]), o 74 (.call 14 [(.t 71), (.t 73)]), o 75 (.un .not (.t 74))])
  (.cond (.t 75) (.seq (.reg [o 6 (.mv (.c (.bool false)))])
   (.ret)) (.skip)))
  (.seq (.seq (.reg [o 76 (.mv (.t 12)), o 77 (.mv (.t 2)), o 78 (.call 11 [(.t 77)]), o 79 (.call 15 [(.t 76), (.t 78)]), o 80 (.un .not (.t 79))])
  (.cond (.t 80) (.seq (.reg [o 6 (.mv (.c (.bool false)))])
   (.ret)) (.skip)))
  (.seq (.reg [o 15 (.mv (.c (.int .i64 1)))])
  (.seq (.reg [o 81 (.mv (.t 10)), o 82 (.mv (.t 15)), o 83 (.call 16 [(.t 81), (.t 82)]), o 15 (.mv (.t 83))])
  (.seq (.reg [o 84 (.mv (.t 11)), o 85 (.mv (.t 15)), o 86 (.call 17 [(.t 84), (.t 85)]), o 15 (.mv (.t 86))])
  (.seq (.reg [o 87 (.mv (.t 12)), o 88 (.mv (.t 15)), o 89 (.call 18 [(.t 87), (.t 88)]), o 15 (.mv (.t 89))])
  (.seq (.seq (.reg [o 90 (.mv (.t 15)), o 91 (.bin .lss (.t 90) (.c (.int .i64 0))), o 92 (.mv (.t 91)), og 93 (.mv (.t 13)) 92 false, og 94 (.mv (.t 8)) 92 false, og 95 (.call 13 [(.t 93), (.t 94)]) 92 false, og 96 (.un .not (.t 95)) 92 false, o 97 (.pick (.t 92) (.c (.bool true)) (.t 96)), o 98 (.mv (.t 97)), og 99 (.mv (.t 14)) 98 false, og 100 (.mv (.t 9)) 98 false, og 101 (.call 14 [(.t 99), (.t 100)]) 98 false, og 102 (.un .not (.t 101)) 98 false, o 103 (.pick (.t 98) (.c (.bool true)) (.t 102))])
  (.cond (.t 103) (.seq (.reg [o 6 (.mv (.c (.bool false)))])
   (.ret)) (.skip)))
  (.seq (.reg [o 16 (.mv (.c (.int .i64 1)))])
  (.seq (.reg [o 104 (.mv (.t 13)), o 105 (.mv (.t 16)), o 106 (.call 16 [(.t 104), (.t 105)]), o 16 (.mv (.t 106))])
  (.seq (.reg [o 107 (.mv (.t 14)), o 108 (.mv (.t 16)), o 109 (.call 17 [(.t 107), (.t 108)]), o 16 (.mv (.t 109))])
  (.seq (.reg [o 17 (.mv (.c (.int .i64 1)))])
  (.seq (.reg [o 110 (.mv (.t 13)), o 111 (.mv (.t 17)), o 112 (.call 19 [(.t 110), (.t 111)]), o 17 (.mv (.t 112))])
  (.seq (.seq (.reg [o 113 (.mv (.t 17)), o 114 (.bin .lss (.t 113) (.c (.int .i64 0)))])
  (.cond (.t 114) (.seq (.reg [o 6 (.mv (.c (.bool false)))])
   (.ret)) (.skip)))
  (.seq (.reg [o 115 (.mv (.t 14)), o 116 (.mv (.t 17)), o 117 (.call 20 [(.t 115), (.t 116)]), o 17 (.mv (.t 117))])
  (.seq (.seq (.reg [o 118 (.mv (.t 17)), o 119 (.bin .lss (.t 118) (.c (.int .i64 0)))])
  (.cond (.t 119) (.seq (.reg [o 6 (.mv (.c (.bool false)))])
   (.ret)) (.skip)))
  (.seq (.seq (.reg [o 120 (.mv (.t 17)), o 121 (.mv (.t 16)), o 122 (.bin .neq (.t 120) (.t 121))])
  (.cond (.t 122) (.seq (.reg [o 6 (.mv (.c (.bool false)))])
   (.ret)) (.skip)))
  (.seq (.reg [o 124 (.mv (.t 0)), o 125 (.call 9 [(.t 124)]), o 126 (.mv (.t 1)), o 127 (.call 10 [(.t 126)]), o 128 (.mv (.t 2)), o 129 (.call 11 [(.t 128)]), o 130 (.call 12 [(.t 125), (.t 127), (.t 129)]), o 123 (.mv (.t 130)), o 131 (.extract (.t 123) 0), o 132 (.extract (.t 123) 1), o 18 (.mv (.t 131)), o 19 (.mv (.t 132))])
  (.seq (.seq (.reg [o 133 (.mv (.t 18)), o 134 (.mv (.t 8)), o 135 (.call 13 [(.t 133), (.t 134)]), o 136 (.un .not (.t 135)), o 137 (.mv (.t 136)), og 138 (.mv (.t 19)) 137 false, og 139 (.mv (.t 9)) 137 false, og 140 (.call 14 [(.t 138), (.t 139)]) 137 false, og 141 (.un .not (.t 140)) 137 false, o 142 (.pick (.t 137) (.c (.bool true)) (.t 141))])
  (.cond (.t 142) (.seq (.reg [o 6 (.mv (.c (.bool false)))])
   (.ret)) (.skip)))
  (.seq (.reg [o 17 (.mv (.c (.int .i64 1)))])
  (.seq (.reg [o 143 (.mv (.t 13)), o 144 (.mv (.t 17)), o 145 (.call 19 [(.t 143), (.t 144)]), o 17 (.mv (.t 145))])
  (.seq (.seq (.reg [o 146 (.mv (.t 17)), o 147 (.bin .lss (.t 146) (.c (.int .i64 0)))])
  (.cond (.t 147) (.seq (.reg [o 6 (.mv (.c (.bool false)))])
   (.ret)) (.skip)))
  (.seq (.reg [o 148 (.mv (.t 14)), o 149 (.mv (.t 17)), o 150 (.call 20 [(.t 148), (.t 149)]), o 17 (.mv (.t 150))])
  (.seq (.seq (.reg [o 151 (.mv (.t 17)), o 152 (.bin .lss (.t 151) (.c (.int .i64 0)))])
  (.cond (.t 152) (.seq (.reg [o 6 (.mv (.c (.bool false)))])
   (.ret)) (.skip)))
  (.seq (.seq (.reg [o 153 (.mv (.t 17)), o 154 (.mv (.t 16)), o 155 (.bin .neq (.t 153) (.t 154))])
  (.cond (.t 155) (.seq (.reg [o 6 (.mv (.c (.bool false)))])
   (.ret)) (.skip)))
  (.seq (.reg [o 6 (.mv (.c (.bool true)))])
  (.ret))))))))))))))))))))))))))))))))))))))),
  [.tmp 6]⟩
/- loop.example/g03011/laws.FnExactJobPlaces -/
def F4 : Fun := ⟨31,
  .seq (.reg [o 2 (.box 8 (.t 0)), o 4 (.mv (.c (.bool false)))])
  (.seq (.reg [o 5 (.mv (.c (.int .i64 1048576)))])
  (.seq (.reg [o 9 (.load (some 8) (.t 2)), o 10 (.mv (.t 5)), o 11 (.call 21 [(.t 9), (.t 10)]), o 5 (.mv (.t 11))])
  (.seq (.seq (.reg [o 12 (.mv (.t 5)), o 13 (.bin .lss (.t 12) (.c (.int .i64 0)))])
  (.cond (.t 13) (.seq (.reg [o 4 (.mv (.c (.bool true)))])
   (.ret)) (.skip)))
  (.seq (.reg [o 14 (.load (some 8) (.t 2)), o 15 (.call 23 [(.t 14)]), o 16 (.mv (.t 1)), o 17 (.call 22 [(.t 15), (.t 16)]), o 6 (.mv (.t 17))])
  (.seq (.reg [o 18 (.load (some 8) (.t 2)), o 19 (.call 23 [(.t 18)]), o 7 (.new 8 [.nsl, .nsl, .nsl, .nsl, .nsl, .nsl, (.int .i64 0), (.int .i64 0)]), st (.store 8 (.t 7) (.t 19))])
  (.seq (.reg [o 20 (.load (some 8) (.t 7)), o 21 (.mv (.t 1)), o 22 (.call 24 [(.t 20), (.t 21)]), o 8 (.mv (.t 22))])
  (.seq (.seq (.reg [o 23 (.mv (.t 8)), o 24 (.mv (.t 6)), o 25 (.bin .neq (.t 23) (.t 24))])
  (.cond (.t 25) (.seq (.reg [o 4 (.mv (.c (.bool false)))])
   (.ret)) (.skip)))
  (.seq (.seq (.draw [o 26 (.load (some 8) (.t 7)), o 27 (.load (some 8) (.t 2)), o 28 (.callF 23 [(.t 27)]), o 29 (.callF 25 [(.t 26), (.t 28)]), o 30 (.un .not (.t 29))])
  (.cond (.t 30) (.seq (.reg [o 4 (.mv (.c (.bool false)))])
   (.ret)) (.skip)))
  (.seq (.reg [o 4 (.mv (.c (.bool true)))])
  (.ret)))))))))),
  [.tmp 4]⟩
/- loop.example/g03011/laws.FnExactLostJobs -/
def F5 : Fun := ⟨69,
  .seq (.reg [o 1 (.box 8 (.t 0)), o 2 (.mv (.c (.bool false)))])
  (.seq (.reg [o 3 (.mv (.c (.int .i64 1048576)))])
  (.seq (.reg [o 11 (.load (some 8) (.t 1)), o 12 (.mv (.t 3)), o 13 (.call 21 [(.t 11), (.t 12)]), o 3 (.mv (.t 13))])
  (.seq (.seq (.reg [o 14 (.mv (.t 3)), o 15 (.bin .lss (.t 14) (.c (.int .i64 0)))])
  (.cond (.t 15) (.seq (.reg [o 2 (.mv (.c (.bool true)))])
   (.ret)) (.skip)))
  (.seq (.reg [o 16 (.load (some 8) (.t 1)), o 17 (.call 23 [(.t 16)]), o 18 (.call 26 [(.t 17)]), o 4 (.mv (.t 18))])
  (.seq (.reg [o 19 (.load (some 8) (.t 1)), o 20 (.call 23 [(.t 19)]), o 5 (.new 8 [.nsl, .nsl, .nsl, .nsl, .nsl, .nsl, (.int .i64 0), (.int .i64 0)]), st (.store 8 (.t 5) (.t 20))])
  (.seq (.reg [o 21 (.load (some 8) (.t 5)), o 22 (.call 27 [(.t 21)]), o 6 (.mv (.t 22))])
  (.seq (.seq (.reg [o 23 (.mv (.t 6)), o 24 (.mv (.t 4)), o 25 (.call 15 [(.t 23), (.t 24)]), o 26 (.un .not (.t 25))])
  (.cond (.t 26) (.seq (.reg [o 2 (.mv (.c (.bool false)))])
   (.ret)) (.skip)))
  (.seq (.seq (.draw [o 27 (.load (some 8) (.t 5)), o 28 (.load (some 8) (.t 1)), o 29 (.callF 23 [(.t 28)]), o 30 (.callF 25 [(.t 27), (.t 29)]), o 31 (.un .not (.t 30))])
  (.cond (.t 31) (.seq (.reg [o 2 (.mv (.c (.bool false)))])
   (.ret)) (.skip)))
  (.seq (.reg [o 7 (.mv (.c (.int .i64 1)))])
  (.seq (.reg [o 32 (.load (some 8) (.t 5)), o 33 (.mv (.t 7)), o 34 (.call 28 [(.t 32), (.t 33)]), o 7 (.mv (.t 34))])
  (.seq (.seq (.reg [o 35 (.mv (.t 7)), o 36 (.bin .lss (.t 35) (.c (.int .i64 0))), o 37 (.mv (.t 36)), og 38 (.mv (.t 6)) 37 false, og 39 (.mv (.t 4)) 37 false, og 40 (.call 15 [(.t 38), (.t 39)]) 37 false, og 41 (.un .not (.t 40)) 37 false, o 42 (.pick (.t 37) (.c (.bool true)) (.t 41))])
  (.cond (.t 42) (.seq (.reg [o 2 (.mv (.c (.bool false)))])
   (.ret)) (.skip)))
  (.seq (.reg [o 8 (.mv (.c (.int .i64 1)))])
  (.seq (.reg [o 43 (.mv (.t 6)), o 44 (.mv (.t 8)), o 45 (.call 18 [(.t 43), (.t 44)]), o 8 (.mv (.t 45))])
  (.seq (.reg [o 9 (.mv (.c (.int .i64 1)))])
  (.seq (.reg [o 46 (.mv (.t 6)), o 47 (.mv (.t 9)), o 48 (.call 29 [(.t 46), (.t 47)]), o 9 (.mv (.t 48))])
  (.seq (.seq (.reg [o 49 (.mv (.t 9)), o 50 (.bin .lss (.t 49) (.c (.int .i64 0)))])
  (.cond (.t 50) (.seq (.reg [o 2 (.mv (.c (.bool false)))])
   (.ret)) (.skip)))
  (.seq (.seq (.reg [o 51 (.mv (.t 9)), o 52 (.mv (.t 8)), o 53 (.bin .neq (.t 51) (.t 52))])
  (.cond (.t 53) (.seq (.reg [o 2 (.mv (.c (.bool false)))])
   (.ret)) (.skip)))
  (.seq (.reg [o 54 (.load (some 8) (.t 1)), o 55 (.call 23 [(.t 54)]), o 56 (.call 27 [(.t 55)]), o 10 (.mv (.t 56))])
  (.seq (.seq (.reg [o 57 (.mv (.t 10)), o 58 (.mv (.t 4)), o 59 (.call 15 [(.t 57), (.t 58)]), o 60 (.un .not (.t 59))])
  (.cond (.t 60) (.seq (.reg [o 2 (.mv (.c (.bool false)))])
   (.ret)) (.skip)))
  (.seq (.reg [o 9 (.mv (.c (.int .i64 1)))])
  (.seq (.reg [o 61 (.mv (.t 6)), o 62 (.mv (.t 9)), o 63 (.call 29 [(.t 61), (.t 62)]), o 9 (.mv (.t 63))])
  (.seq (.seq (.reg [o 64 (.mv (.t 9)), o 65 (.bin .lss (.t 64) (.c (.int .i64 0)))])
  (.cond (.t 65) (.seq (.reg [o 2 (.mv (.c (.bool false)))])
   (.ret)) (.skip)))
  (.seq (.seq (.reg [o 66 (.mv (.t 9)), o 67 (.mv (.t 8)), o 68 (.bin .neq (.t 66) (.t 67))])
  (.cond (.t 68) (.seq (.reg [o 2 (.mv (.c (.bool false)))])
   (.ret)) (.skip)))
  (.seq (.reg [o 2 (.mv (.c (.bool true)))])
  (.ret))))))))))))))))))))))))),
  [.tmp 2]⟩
/- loop.example/g03011/laws.szLineS -/
def F6 : Fun := ⟨27,
  .seq (.reg [o 4 (.mv (.c (.int .i64 0)))])
  (.seq (.reg [o 6 (.mv (.t 1)), o 7 (.mv (.t 0)), o 8 (.lenL (.t 7)), o 9 (.bin .sub (.t 6) (.t 8)), o 1 (.mv (.t 9))])
  (.seq (.seq (.reg [o 10 (.mv (.t 1)), o 11 (.bin .lss (.t 10) (.c (.int .i64 0)))])
  (.cond (.t 11) (.seq (.reg [o 4 (.mv (.c (.int .i64 (-1))))])
   (.ret)) (.skip)))
  (.seq (.seq (.reg [o 5 (.mv (.c (.int .i64 0)))])
  (.block 0 (.loop (.seq (.seq (.reg [o 12 (.mv (.t 5)), o 13 (.mv (.t 0)), o 14 (.lenL (.t 13)), o 15 (.bin .lss (.t 12) (.t 14))])
    (.cond (.t 15) (.skip) (.exit 0)))
    (.seq (.block 1 (.seq (.reg [o 18 (.mv (.t 0)), o 19 (.mv (.t 5)), o 20 (.iaddr 4 (.t 18) (.t 19)), o 21 (.load (some 4) (.t 20)), o 22 (.mv (.t 1)), o 23 (.call 30 [(.t 21), (.t 22)]), o 1 (.mv (.t 23))])
     (.seq (.reg [o 24 (.mv (.t 1)), o 25 (.bin .lss (.t 24) (.c (.int .i64 0)))])
     (.cond (.t 25) (.seq (.reg [o 4 (.mv (.c (.int .i64 (-1))))])
      (.ret)) (.skip)))))
    (.reg [o 16 (.mv (.t 5)), o 17 (.bin .add (.t 16) (.c (.int .i64 1))), o 5 (.mv (.t 17))]))))))
  (.seq (.reg [o 26 (.mv (.t 1)), o 4 (.mv (.t 26))])
  (.ret))))),
  [.tmp 4]⟩
/- loop.example/g03011/laws.szActorS -/
def F7 : Fun := ⟨27,
  .seq (.reg [o 4 (.mv (.c (.int .i64 0)))])
  (.seq (.reg [o 6 (.mv (.t 1)), o 7 (.mv (.t 0)), o 8 (.lenL (.t 7)), o 9 (.bin .sub (.t 6) (.t 8)), o 1 (.mv (.t 9))])
  (.seq (.seq (.reg [o 10 (.mv (.t 1)), o 11 (.bin .lss (.t 10) (.c (.int .i64 0)))])
  (.cond (.t 11) (.seq (.reg [o 4 (.mv (.c (.int .i64 (-1))))])
   (.ret)) (.skip)))
  (.seq (.seq (.reg [o 5 (.mv (.c (.int .i64 0)))])
  (.block 0 (.loop (.seq (.seq (.reg [o 12 (.mv (.t 5)), o 13 (.mv (.t 0)), o 14 (.lenL (.t 13)), o 15 (.bin .lss (.t 12) (.t 14))])
    (.cond (.t 15) (.skip) (.exit 0)))
    (.seq (.block 1 (.seq (.reg [o 18 (.mv (.t 0)), o 19 (.mv (.t 5)), o 20 (.iaddr 7 (.t 18) (.t 19)), o 21 (.load (some 7) (.t 20)), o 22 (.mv (.t 1)), o 23 (.call 31 [(.t 21), (.t 22)]), o 1 (.mv (.t 23))])
     (.seq (.reg [o 24 (.mv (.t 1)), o 25 (.bin .lss (.t 24) (.c (.int .i64 0)))])
     (.cond (.t 25) (.seq (.reg [o 4 (.mv (.c (.int .i64 (-1))))])
      (.ret)) (.skip)))))
    (.reg [o 16 (.mv (.t 5)), o 17 (.bin .add (.t 16) (.c (.int .i64 1))), o 5 (.mv (.t 17))]))))))
  (.seq (.reg [o 26 (.mv (.t 1)), o 4 (.mv (.t 26))])
  (.ret))))),
  [.tmp 4]⟩
/- loop.example/g03011/spec.RunActors -/
def F8 : Fun := ⟨80,
  .seq (.reg [o 6 (.mv (.c .nsl)), o 7 (.mv (.c .nsl))])
  (.seq (.reg [o 12 (.mv (.t 0)), o 13 (.call 32 [(.t 12)]), o 8 (.mv (.t 13))])
  (.seq (.reg [o 14 (.mv (.t 1)), o 15 (.call 33 [(.t 14)]), o 9 (.mv (.t 15))])
  (.seq (.seq (.reg [o 16 (.mv (.t 0)), o 17 (.call 34 [(.t 16)]), o 18 (.un .not (.t 17)), o 19 (.mv (.t 18)), og 20 (.mv (.t 1)) 19 false, og 21 (.call 35 [(.t 20)]) 19 false, og 22 (.un .not (.t 21)) 19 false, o 23 (.pick (.t 19) (.c (.bool true)) (.t 22))])
  (.cond (.t 23) (.seq (.reg [o 24 (.mv (.t 8)), o 25 (.mv (.t 9)), o 6 (.mv (.t 24)), o 7 (.mv (.t 25))])
   (.ret)) (.skip)))
  (.seq (.seq (.reg [o 10 (.mv (.c (.int .i64 0)))])
  (.block 0 (.loop (.seq (.seq (.reg [o 26 (.mv (.t 10)), o 27 (.mv (.t 2)), o 28 (.lenL (.t 27)), o 29 (.bin .lss (.t 26) (.t 28)), o 30 (.mv (.t 29)), og 31 (.mv (.t 1)) 30 true, og 32 (.lenL (.t 31)) 30 true, og 33 (.bin .gtr (.t 32) (.c (.int .i64 0))) 30 true, o 34 (.pick (.t 30) (.t 33) (.c (.bool false)))])
    (.cond (.t 34) (.skip) (.exit 0)))
    (.seq (.block 1 (.seq (.reg [o 37 (.mv (.t 2)), o 38 (.mv (.t 10)), o 39 (.iaddr 1 (.t 37) (.t 38)), o 40 (.load none (.t 39)), o 11 (.mv (.t 40))])
     (.seq (.seq (.reg [o 41 (.mv (.t 11)), o 42 (.bin .geq (.t 41) (.c (.int .i64 0)))])
     (.cond (.t 42) (.seq (.reg [o 43 (.mv (.t 8)), o 44 (.mv (.t 9)), o 45 (.mv (.t 11)), o 46 (.mv (.t 1)), o 47 (.lenL (.t 46)), o 48 (.bin .rem (.t 45) (.t 47)), o 49 (.call 36 [(.t 43), (.t 44), (.t 48)])])
      (.exit 1)) (.skip)))
     (.seq (.reg [o 50 (.mv (.t 11)), o 51 (.bin .add (.t 50) (.c (.int .i64 1))), o 52 (.un .neg (.t 51)), o 53 (.mv (.t 1)), o 54 (.lenL (.t 53)), o 55 (.bin .rem (.t 52) (.t 54)), o 11 (.mv (.t 55))])
     (.seq (.seq (.reg [o 56 (.mv (.t 9)), o 57 (.mv (.t 11)), o 58 (.iaddr 7 (.t 56) (.t 57)), o 59 (.faddr 4 (.t 58)), o 60 (.load none (.t 59)), o 61 (.bin .eql (.t 60) (.c (.int .i64 0))), o 62 (.mv (.t 61)), og 63 (.mv (.t 9)) 62 false, og 64 (.mv (.t 11)) 62 false, og 65 (.iaddr 7 (.t 63) (.t 64)) 62 false, og 66 (.faddr 4 (.t 65)) 62 false, og 67 (.load none (.t 66)) 62 false, og 68 (.bin .eql (.t 67) (.c (.int .i64 1))) 62 false, o 69 (.pick (.t 62) (.c (.bool true)) (.t 68))])
     (.cond (.t 69) (.reg [o 70 (.mv (.t 9)), o 71 (.mv (.t 11)), o 72 (.iaddr 7 (.t 70) (.t 71)), o 73 (.faddr 4 (.t 72)), st (.store 1 (.t 73) (.c (.int .i64 4)))]) (.skip)))
     (.reg [o 74 (.mv (.t 8)), o 75 (.mv (.t 11)), o 76 (.bin .add (.t 75) (.c (.int .i64 1))), o 77 (.call 37 [(.t 74), (.t 76)])]))))))
    (.reg [o 35 (.mv (.t 10)), o 36 (.bin .add (.t 35) (.c (.int .i64 1))), o 10 (.mv (.t 36))]))))))
  (.seq (.reg [o 78 (.mv (.t 8)), o 79 (.mv (.t 9)), o 6 (.mv (.t 78)), o 7 (.mv (.t 79))])
  (.ret)))))),
  [.tmp 6, .tmp 7]⟩
/- loop.example/g03011/laws.toLineS -/
def F9 : Fun := ⟨23,
  .seq (.reg [o 2 (.mv (.c .nsl))])
  (.seq (.reg [o 5 (.mv (.t 0)), o 6 (.lenL (.t 5)), o 7 (.mkslice 4 [(.int .i64 0), (.int .i64 0), (.int .i64 0), .nsl] 48 (.t 6) (.t 6)), o 3 (.mv (.t 7))])
  (.seq (.seq (.reg [o 4 (.mv (.c (.int .i64 0)))])
  (.block 0 (.loop (.seq (.seq (.reg [o 8 (.mv (.t 4)), o 9 (.mv (.t 0)), o 10 (.lenL (.t 9)), o 11 (.bin .lss (.t 8) (.t 10))])
    (.cond (.t 11) (.skip) (.exit 0)))
    (.seq (.block 1 (.reg [o 14 (.mv (.t 3)), o 15 (.mv (.t 4)), o 16 (.mv (.t 0)), o 17 (.mv (.t 4)), o 18 (.iaddr 4 (.t 16) (.t 17)), o 19 (.load (some 4) (.t 18)), o 20 (.call 38 [(.t 19)]), o 21 (.iaddr 4 (.t 14) (.t 15)), st (.store 4 (.t 21) (.t 20))]))
    (.reg [o 12 (.mv (.t 4)), o 13 (.bin .add (.t 12) (.c (.int .i64 1))), o 4 (.mv (.t 13))]))))))
  (.seq (.reg [o 22 (.mv (.t 3)), o 2 (.mv (.t 22))])
  (.ret)))),
  [.tmp 2]⟩
/- loop.example/g03011/laws.toActorS -/
def F10 : Fun := ⟨23,
  .seq (.reg [o 2 (.mv (.c .nsl))])
  (.seq (.reg [o 5 (.mv (.t 0)), o 6 (.lenL (.t 5)), o 7 (.mkslice 7 [(.bool false), (.int .i64 0), (.int .i64 0), .nsl, (.int .i64 0), (.int .i64 0), (.int .i64 0)] 72 (.t 6) (.t 6)), o 3 (.mv (.t 7))])
  (.seq (.seq (.reg [o 4 (.mv (.c (.int .i64 0)))])
  (.block 0 (.loop (.seq (.seq (.reg [o 8 (.mv (.t 4)), o 9 (.mv (.t 0)), o 10 (.lenL (.t 9)), o 11 (.bin .lss (.t 8) (.t 10))])
    (.cond (.t 11) (.skip) (.exit 0)))
    (.seq (.block 1 (.reg [o 14 (.mv (.t 3)), o 15 (.mv (.t 4)), o 16 (.mv (.t 0)), o 17 (.mv (.t 4)), o 18 (.iaddr 7 (.t 16) (.t 17)), o 19 (.load (some 7) (.t 18)), o 20 (.call 39 [(.t 19)]), o 21 (.iaddr 7 (.t 14) (.t 15)), st (.store 7 (.t 21) (.t 20))]))
    (.reg [o 12 (.mv (.t 4)), o 13 (.bin .add (.t 12) (.c (.int .i64 1))), o 4 (.mv (.t 13))]))))))
  (.seq (.reg [o 22 (.mv (.t 3)), o 2 (.mv (.t 22))])
  (.ret)))),
  [.tmp 2]⟩
/- loop.example/g03011/laws.toIntS -/
def F11 : Fun := ⟨22,
  .seq (.reg [o 2 (.mv (.c .nsl))])
  (.seq (.reg [o 5 (.mv (.t 0)), o 6 (.lenL (.t 5)), o 7 (.mkslice 1 [(.int .i64 0)] 8 (.t 6) (.t 6)), o 3 (.mv (.t 7))])
  (.seq (.seq (.reg [o 4 (.mv (.c (.int .i64 0)))])
  (.block 0 (.loop (.seq (.seq (.reg [o 8 (.mv (.t 4)), o 9 (.mv (.t 0)), o 10 (.lenL (.t 9)), o 11 (.bin .lss (.t 8) (.t 10))])
    (.cond (.t 11) (.skip) (.exit 0)))
    (.seq (.block 1 (.reg [o 14 (.mv (.t 3)), o 15 (.mv (.t 4)), o 16 (.mv (.t 0)), o 17 (.mv (.t 4)), o 18 (.iaddr 1 (.t 16) (.t 17)), o 19 (.load none (.t 18)), o 20 (.iaddr 1 (.t 14) (.t 15)), st (.store 1 (.t 20) (.t 19))]))
    (.reg [o 12 (.mv (.t 4)), o 13 (.bin .add (.t 12) (.c (.int .i64 1))), o 4 (.mv (.t 13))]))))))
  (.seq (.reg [o 21 (.mv (.t 3)), o 2 (.mv (.t 21))])
  (.ret)))),
  [.tmp 2]⟩
/- loop.example/g03011/impl.RunActors -/
def F12 : Fun := ⟨95,
  .seq (.reg [o 6 (.mv (.c .nsl)), o 7 (.mv (.c .nsl))])
  (.seq (.reg [o 15 (.mv (.t 0)), o 16 (.call 40 [(.t 15)]), o 8 (.mv (.t 16))])
  (.seq (.reg [o 17 (.mv (.t 1)), o 18 (.call 41 [(.t 17)]), o 9 (.mv (.t 18))])
  (.seq (.seq (.reg [o 19 (.mv (.t 1)), o 20 (.lenL (.t 19)), o 21 (.mv (.c (.int .i64 0)))])
  (.block 0 (.loop (.seq (.reg [o 22 (.bin .lss (.t 21) (.t 20))])
    (.seq (.cond (.t 22) (.skip) (.exit 0))
    (.seq (.block 1 (.seq (.reg [o 23 (.mv (.t 21)), o 24 (.iaddr 7 (.t 19) (.t 21)), o 25 (.load (some 7) (.t 24)), o 11 (.new 7 [(.bool false), (.int .i64 0), (.int .i64 0), .nsl, (.int .i64 0), (.int .i64 0), (.int .i64 0)]), o 10 (.mv (.t 23)), st (.store 7 (.t 11) (.t 25))])
     (.reg [o 26 (.mv (.t 9)), o 27 (.mv (.t 10)), o 28 (.faddr 3 (.t 11)), o 29 (.load none (.t 28)), o 30 (.call 42 [(.t 29)]), o 31 (.iaddr 7 (.t 26) (.t 27)), o 32 (.faddr 3 (.t 31)), st (.store 1 (.t 32) (.t 30))])))
    (.reg [o 33 (.bin .add (.t 21) (.c (.int .i64 1))), o 21 (.mv (.t 33))])))))))
  (.seq (.seq (.reg [o 34 (.mv (.t 0)), o 35 (.call 43 [(.t 34)]), o 36 (.un .not (.t 35)), o 37 (.mv (.t 36)), og 38 (.mv (.t 1)) 37 false, og 39 (.call 44 [(.t 38)]) 37 false, og 40 (.un .not (.t 39)) 37 false, o 41 (.pick (.t 37) (.c (.bool true)) (.t 40)), o 42 (.mv (.t 41)), og 43 (.mv (.t 1)) 42 false, og 44 (.lenL (.t 43)) 42 false, og 45 (.bin .eql (.t 44) (.c (.int .i64 0))) 42 false, o 46 (.pick (.t 42) (.c (.bool true)) (.t 45))])
  (.cond (.t 46) (.seq (.reg [o 47 (.mv (.t 8)), o 48 (.mv (.t 9)), o 6 (.mv (.t 47)), o 7 (.mv (.t 48))])
   (.ret)) (.skip)))
  (.seq (.seq (.reg [o 49 (.mv (.t 2)), o 50 (.lenL (.t 49)), o 51 (.mv (.c (.int .i64 0)))])
  (.block 2 (.loop (.seq (.reg [o 52 (.bin .lss (.t 51) (.t 50))])
    (.seq (.cond (.t 52) (.skip) (.exit 2))
    (.seq (.block 3 (.seq (.reg [o 53 (.iaddr 1 (.t 49) (.t 51)), o 54 (.load none (.t 53)), o 13 (.mv (.t 54))])
     (.seq (.seq (.reg [o 55 (.mv (.t 13)), o 56 (.bin .geq (.t 55) (.c (.int .i64 0)))])
     (.cond (.t 56) (.seq (.reg [o 57 (.mv (.t 8)), o 58 (.mv (.t 9)), o 59 (.mv (.t 13)), o 60 (.mv (.t 9)), o 61 (.lenL (.t 60)), o 62 (.bin .rem (.t 59) (.t 61)), o 63 (.call 45 [(.t 57), (.t 58), (.t 62)])])
      (.exit 3)) (.skip)))
     (.seq (.reg [o 64 (.mv (.t 13)), o 65 (.bin .add (.t 64) (.c (.int .i64 1))), o 66 (.un .neg (.t 65)), o 67 (.mv (.t 9)), o 68 (.lenL (.t 67)), o 69 (.bin .rem (.t 66) (.t 68)), o 14 (.mv (.t 69))])
     (.seq (.seq (.reg [o 70 (.mv (.t 9)), o 71 (.mv (.t 14)), o 72 (.iaddr 7 (.t 70) (.t 71)), o 73 (.faddr 4 (.t 72)), o 74 (.load none (.t 73)), o 75 (.bin .eql (.t 74) (.c (.int .i64 0))), o 76 (.mv (.t 75)), og 77 (.mv (.t 9)) 76 false, og 78 (.mv (.t 14)) 76 false, og 79 (.iaddr 7 (.t 77) (.t 78)) 76 false, og 80 (.faddr 4 (.t 79)) 76 false, og 81 (.load none (.t 80)) 76 false, og 82 (.bin .eql (.t 81) (.c (.int .i64 1))) 76 false, o 83 (.pick (.t 76) (.c (.bool true)) (.t 82))])
     (.cond (.t 83) (.reg [o 84 (.mv (.t 9)), o 85 (.mv (.t 14)), o 86 (.iaddr 7 (.t 84) (.t 85)), o 87 (.faddr 4 (.t 86)), st (.store 1 (.t 87) (.c (.int .i64 4)))]) (.skip)))
     (.reg [o 88 (.mv (.t 8)), o 89 (.mv (.t 14)), o 90 (.bin .add (.t 89) (.c (.int .i64 1))), o 91 (.call 46 [(.t 88), (.t 90)])]))))))
    (.reg [o 92 (.bin .add (.t 51) (.c (.int .i64 1))), o 51 (.mv (.t 92))])))))))
  (.seq (.reg [o 93 (.mv (.t 8)), o 94 (.mv (.t 9)), o 6 (.mv (.t 93)), o 7 (.mv (.t 94))])
  (.ret))))))),
  [.tmp 6, .tmp 7]⟩
/- loop.example/g03011/laws.eqLineS -/
def F13 : Fun := ⟨27,
  .seq (.reg [o 4 (.mv (.c (.bool false)))])
  (.seq (.seq (.reg [o 6 (.mv (.t 0)), o 7 (.lenL (.t 6)), o 8 (.mv (.t 1)), o 9 (.lenL (.t 8)), o 10 (.bin .neq (.t 7) (.t 9))])
  (.cond (.t 10) (.seq (.reg [o 4 (.mv (.c (.bool false)))])
   (.ret)) (.skip)))
  (.seq (.seq (.reg [o 5 (.mv (.c (.int .i64 0)))])
  (.block 0 (.loop (.seq (.seq (.reg [o 11 (.mv (.t 5)), o 12 (.mv (.t 0)), o 13 (.lenL (.t 12)), o 14 (.bin .lss (.t 11) (.t 13))])
    (.cond (.t 14) (.skip) (.exit 0)))
    (.seq (.block 1 (.seq (.reg [o 17 (.mv (.t 0)), o 18 (.mv (.t 5)), o 19 (.iaddr 4 (.t 17) (.t 18)), o 20 (.load (some 4) (.t 19)), o 21 (.mv (.t 1)), o 22 (.mv (.t 5)), o 23 (.iaddr 4 (.t 21) (.t 22)), o 24 (.load (some 4) (.t 23)), o 25 (.callF 47 [(.t 20), (.t 24)]), o 26 (.un .not (.t 25))])
     (.cond (.t 26) (.seq (.reg [o 4 (.mv (.c (.bool false)))])
      (.ret)) (.skip))))
    (.reg [o 15 (.mv (.t 5)), o 16 (.bin .add (.t 15) (.c (.int .i64 1))), o 5 (.mv (.t 16))]))))))
  (.seq (.reg [o 4 (.mv (.c (.bool true)))])
  (.ret)))),
  [.tmp 4]⟩
/- loop.example/g03011/laws.eqActorS -/
def F14 : Fun := ⟨27,
  .seq (.reg [o 4 (.mv (.c (.bool false)))])
  (.seq (.seq (.reg [o 6 (.mv (.t 0)), o 7 (.lenL (.t 6)), o 8 (.mv (.t 1)), o 9 (.lenL (.t 8)), o 10 (.bin .neq (.t 7) (.t 9))])
  (.cond (.t 10) (.seq (.reg [o 4 (.mv (.c (.bool false)))])
   (.ret)) (.skip)))
  (.seq (.seq (.reg [o 5 (.mv (.c (.int .i64 0)))])
  (.block 0 (.loop (.seq (.seq (.reg [o 11 (.mv (.t 5)), o 12 (.mv (.t 0)), o 13 (.lenL (.t 12)), o 14 (.bin .lss (.t 11) (.t 13))])
    (.cond (.t 14) (.skip) (.exit 0)))
    (.seq (.block 1 (.seq (.reg [o 17 (.mv (.t 0)), o 18 (.mv (.t 5)), o 19 (.iaddr 7 (.t 17) (.t 18)), o 20 (.load (some 7) (.t 19)), o 21 (.mv (.t 1)), o 22 (.mv (.t 5)), o 23 (.iaddr 7 (.t 21) (.t 22)), o 24 (.load (some 7) (.t 23)), o 25 (.callF 48 [(.t 20), (.t 24)]), o 26 (.un .not (.t 25))])
     (.cond (.t 26) (.seq (.reg [o 4 (.mv (.c (.bool false)))])
      (.ret)) (.skip))))
    (.reg [o 15 (.mv (.t 5)), o 16 (.bin .add (.t 15) (.c (.int .i64 1))), o 5 (.mv (.t 16))]))))))
  (.seq (.reg [o 4 (.mv (.c (.bool true)))])
  (.ret)))),
  [.tmp 4]⟩
/- loop.example/g03011/laws.eqIntS -/
def F15 : Fun := ⟨26,
  .seq (.reg [o 4 (.mv (.c (.bool false)))])
  (.seq (.seq (.reg [o 6 (.mv (.t 0)), o 7 (.lenL (.t 6)), o 8 (.mv (.t 1)), o 9 (.lenL (.t 8)), o 10 (.bin .neq (.t 7) (.t 9))])
  (.cond (.t 10) (.seq (.reg [o 4 (.mv (.c (.bool false)))])
   (.ret)) (.skip)))
  (.seq (.seq (.reg [o 5 (.mv (.c (.int .i64 0)))])
  (.block 0 (.loop (.seq (.seq (.reg [o 11 (.mv (.t 5)), o 12 (.mv (.t 0)), o 13 (.lenL (.t 12)), o 14 (.bin .lss (.t 11) (.t 13))])
    (.cond (.t 14) (.skip) (.exit 0)))
    (.seq (.block 1 (.seq (.reg [o 17 (.mv (.t 0)), o 18 (.mv (.t 5)), o 19 (.iaddr 1 (.t 17) (.t 18)), o 20 (.load none (.t 19)), o 21 (.mv (.t 1)), o 22 (.mv (.t 5)), o 23 (.iaddr 1 (.t 21) (.t 22)), o 24 (.load none (.t 23)), o 25 (.bin .neq (.t 20) (.t 24))])
     (.cond (.t 25) (.seq (.reg [o 4 (.mv (.c (.bool false)))])
      (.ret)) (.skip))))
    (.reg [o 15 (.mv (.t 5)), o 16 (.bin .add (.t 15) (.c (.int .i64 1))), o 5 (.mv (.t 16))]))))))
  (.seq (.reg [o 4 (.mv (.c (.bool true)))])
  (.ret)))),
  [.tmp 4]⟩
/- loop.example/g03011/laws.markLineS -/
def F16 : Fun := ⟨41,
  .seq (.reg [o 4 (.mv (.c (.int .i64 0)))])
  (.seq (.seq (.reg [o 5 (.mv (.c (.int .i64 0)))])
  (.block 0 (.loop (.seq (.seq (.reg [o 6 (.mv (.t 5)), o 7 (.mv (.t 0)), o 8 (.lenL (.t 7)), o 9 (.bin .lss (.t 6) (.t 8))])
    (.cond (.t 9) (.skip) (.exit 0)))
    (.seq (.block 1 (.seq (.reg [o 12 (.mv (.t 0)), o 13 (.mv (.t 5)), o 14 (.mv (.t 1)), o 15 (.iaddr 4 (.t 12) (.t 13)), o 16 (.faddr 0 (.t 15)), st (.store 1 (.t 16) (.t 14))])
     (.seq (.reg [o 17 (.mv (.t 1)), o 18 (.bin .add (.t 17) (.c (.int .i64 1))), o 1 (.mv (.t 18))])
     (.seq (.reg [o 19 (.mv (.t 0)), o 20 (.mv (.t 5)), o 21 (.mv (.t 1)), o 22 (.iaddr 4 (.t 19) (.t 20)), o 23 (.faddr 1 (.t 22)), st (.store 1 (.t 23) (.t 21))])
     (.seq (.reg [o 24 (.mv (.t 1)), o 25 (.bin .add (.t 24) (.c (.int .i64 1))), o 1 (.mv (.t 25))])
     (.seq (.reg [o 26 (.mv (.t 0)), o 27 (.mv (.t 5)), o 28 (.mv (.t 1)), o 29 (.iaddr 4 (.t 26) (.t 27)), o 30 (.faddr 2 (.t 29)), st (.store 1 (.t 30) (.t 28))])
     (.seq (.reg [o 31 (.mv (.t 1)), o 32 (.bin .add (.t 31) (.c (.int .i64 1))), o 1 (.mv (.t 32))])
     (.reg [o 33 (.mv (.t 0)), o 34 (.mv (.t 5)), o 35 (.iaddr 4 (.t 33) (.t 34)), o 36 (.faddr 3 (.t 35)), o 37 (.load none (.t 36)), o 38 (.mv (.t 1)), o 39 (.call 18 [(.t 37), (.t 38)]), o 1 (.mv (.t 39))]))))))))
    (.reg [o 10 (.mv (.t 5)), o 11 (.bin .add (.t 10) (.c (.int .i64 1))), o 5 (.mv (.t 11))]))))))
  (.seq (.reg [o 40 (.mv (.t 1)), o 4 (.mv (.t 40))])
  (.ret))),
  [.tmp 4]⟩
/- loop.example/g03011/laws.markActorS -/
def F17 : Fun := ⟨64,
  .seq (.reg [o 4 (.mv (.c (.int .i64 0)))])
  (.seq (.seq (.reg [o 5 (.mv (.c (.int .i64 0)))])
  (.block 0 (.loop (.seq (.seq (.reg [o 6 (.mv (.t 5)), o 7 (.mv (.t 0)), o 8 (.lenL (.t 7)), o 9 (.bin .lss (.t 6) (.t 8))])
    (.cond (.t 9) (.skip) (.exit 0)))
    (.seq (.block 1 (.seq (.reg [o 12 (.mv (.t 0)), o 13 (.mv (.t 5)), o 14 (.mv (.t 1)), o 15 (.bin .rem (.t 14) (.c (.int .i64 3))), o 16 (.bin .eql (.t 15) (.c (.int .i64 0))), o 17 (.iaddr 7 (.t 12) (.t 13)), o 18 (.faddr 0 (.t 17)), st (.store 1 (.t 18) (.t 16))])
     (.seq (.reg [o 19 (.mv (.t 1)), o 20 (.bin .add (.t 19) (.c (.int .i64 1))), o 1 (.mv (.t 20))])
     (.seq (.reg [o 21 (.mv (.t 0)), o 22 (.mv (.t 5)), o 23 (.mv (.t 1)), o 24 (.iaddr 7 (.t 21) (.t 22)), o 25 (.faddr 1 (.t 24)), st (.store 1 (.t 25) (.t 23))])
     (.seq (.reg [o 26 (.mv (.t 1)), o 27 (.bin .add (.t 26) (.c (.int .i64 1))), o 1 (.mv (.t 27))])
     (.seq (.reg [o 28 (.mv (.t 0)), o 29 (.mv (.t 5)), o 30 (.mv (.t 1)), o 31 (.iaddr 7 (.t 28) (.t 29)), o 32 (.faddr 2 (.t 31)), st (.store 1 (.t 32) (.t 30))])
     (.seq (.reg [o 33 (.mv (.t 1)), o 34 (.bin .add (.t 33) (.c (.int .i64 1))), o 1 (.mv (.t 34))])
     (.seq (.reg [o 35 (.mv (.t 0)), o 36 (.mv (.t 5)), o 37 (.iaddr 7 (.t 35) (.t 36)), o 38 (.faddr 3 (.t 37)), o 39 (.load none (.t 38)), o 40 (.mv (.t 1)), o 41 (.call 18 [(.t 39), (.t 40)]), o 1 (.mv (.t 41))])
     (.seq (.reg [o 42 (.mv (.t 0)), o 43 (.mv (.t 5)), o 44 (.mv (.t 1)), o 45 (.iaddr 7 (.t 42) (.t 43)), o 46 (.faddr 4 (.t 45)), st (.store 1 (.t 46) (.t 44))])
     (.seq (.reg [o 47 (.mv (.t 1)), o 48 (.bin .add (.t 47) (.c (.int .i64 1))), o 1 (.mv (.t 48))])
     (.seq (.reg [o 49 (.mv (.t 0)), o 50 (.mv (.t 5)), o 51 (.mv (.t 1)), o 52 (.iaddr 7 (.t 49) (.t 50)), o 53 (.faddr 5 (.t 52)), st (.store 1 (.t 53) (.t 51))])
     (.seq (.reg [o 54 (.mv (.t 1)), o 55 (.bin .add (.t 54) (.c (.int .i64 1))), o 1 (.mv (.t 55))])
     (.seq (.reg [o 56 (.mv (.t 0)), o 57 (.mv (.t 5)), o 58 (.mv (.t 1)), o 59 (.iaddr 7 (.t 56) (.t 57)), o 60 (.faddr 6 (.t 59)), st (.store 1 (.t 60) (.t 58))])
     (.reg [o 61 (.mv (.t 1)), o 62 (.bin .add (.t 61) (.c (.int .i64 1))), o 1 (.mv (.t 62))]))))))))))))))
    (.reg [o 10 (.mv (.t 5)), o 11 (.bin .add (.t 10) (.c (.int .i64 1))), o 5 (.mv (.t 11))]))))))
  (.seq (.reg [o 63 (.mv (.t 1)), o 4 (.mv (.t 63))])
  (.ret))),
  [.tmp 4]⟩
/- loop.example/g03011/laws.markIntS -/
def F18 : Fun := ⟨19,
  .seq (.reg [o 4 (.mv (.c (.int .i64 0)))])
  (.seq (.seq (.reg [o 5 (.mv (.c (.int .i64 0)))])
  (.block 0 (.loop (.seq (.seq (.reg [o 6 (.mv (.t 5)), o 7 (.mv (.t 0)), o 8 (.lenL (.t 7)), o 9 (.bin .lss (.t 6) (.t 8))])
    (.cond (.t 9) (.skip) (.exit 0)))
    (.seq (.block 1 (.seq (.reg [o 12 (.mv (.t 0)), o 13 (.mv (.t 5)), o 14 (.mv (.t 1)), o 15 (.iaddr 1 (.t 12) (.t 13)), st (.store 1 (.t 15) (.t 14))])
     (.reg [o 16 (.mv (.t 1)), o 17 (.bin .add (.t 16) (.c (.int .i64 1))), o 1 (.mv (.t 17))])))
    (.reg [o 10 (.mv (.t 5)), o 11 (.bin .add (.t 10) (.c (.int .i64 1))), o 5 (.mv (.t 11))]))))))
  (.seq (.reg [o 18 (.mv (.t 1)), o 4 (.mv (.t 18))])
  (.ret))),
  [.tmp 4]⟩
/- loop.example/g03011/laws.heldLineS -/
def F19 : Fun := ⟨49,
  .seq (.reg [o 4 (.mv (.c (.int .i64 0)))])
  (.seq (.seq (.reg [o 5 (.mv (.c (.int .i64 0)))])
  (.block 0 (.loop (.seq (.seq (.reg [o 6 (.mv (.t 5)), o 7 (.mv (.t 0)), o 8 (.lenL (.t 7)), o 9 (.bin .lss (.t 6) (.t 8))])
    (.cond (.t 9) (.skip) (.exit 0)))
    (.seq (.block 1 (.seq (.seq (.reg [o 12 (.mv (.t 0)), o 13 (.mv (.t 5)), o 14 (.iaddr 4 (.t 12) (.t 13)), o 15 (.faddr 0 (.t 14)), o 16 (.load none (.t 15)), o 17 (.mv (.t 1)), o 18 (.bin .neq (.t 16) (.t 17))])
     (.cond (.t 18) (.seq (.reg [o 4 (.mv (.c (.int .i64 (-1))))])
      (.ret)) (.skip)))
     (.seq (.reg [o 19 (.mv (.t 1)), o 20 (.bin .add (.t 19) (.c (.int .i64 1))), o 1 (.mv (.t 20))])
     (.seq (.seq (.reg [o 21 (.mv (.t 0)), o 22 (.mv (.t 5)), o 23 (.iaddr 4 (.t 21) (.t 22)), o 24 (.faddr 1 (.t 23)), o 25 (.load none (.t 24)), o 26 (.mv (.t 1)), o 27 (.bin .neq (.t 25) (.t 26))])
     (.cond (.t 27) (.seq (.reg [o 4 (.mv (.c (.int .i64 (-1))))])
      (.ret)) (.skip)))
     (.seq (.reg [o 28 (.mv (.t 1)), o 29 (.bin .add (.t 28) (.c (.int .i64 1))), o 1 (.mv (.t 29))])
     (.seq (.seq (.reg [o 30 (.mv (.t 0)), o 31 (.mv (.t 5)), o 32 (.iaddr 4 (.t 30) (.t 31)), o 33 (.faddr 2 (.t 32)), o 34 (.load none (.t 33)), o 35 (.mv (.t 1)), o 36 (.bin .neq (.t 34) (.t 35))])
     (.cond (.t 36) (.seq (.reg [o 4 (.mv (.c (.int .i64 (-1))))])
      (.ret)) (.skip)))
     (.seq (.reg [o 37 (.mv (.t 1)), o 38 (.bin .add (.t 37) (.c (.int .i64 1))), o 1 (.mv (.t 38))])
     (.seq (.reg [o 39 (.mv (.t 0)), o 40 (.mv (.t 5)), o 41 (.iaddr 4 (.t 39) (.t 40)), o 42 (.faddr 3 (.t 41)), o 43 (.load none (.t 42)), o 44 (.mv (.t 1)), o 45 (.call 29 [(.t 43), (.t 44)]), o 1 (.mv (.t 45))])
     (.seq (.reg [o 46 (.mv (.t 1)), o 47 (.bin .lss (.t 46) (.c (.int .i64 0)))])
     (.cond (.t 47) (.seq (.reg [o 4 (.mv (.c (.int .i64 (-1))))])
      (.ret)) (.skip)))))))))))
    (.reg [o 10 (.mv (.t 5)), o 11 (.bin .add (.t 10) (.c (.int .i64 1))), o 5 (.mv (.t 11))]))))))
  (.seq (.reg [o 48 (.mv (.t 1)), o 4 (.mv (.t 48))])
  (.ret))),
  [.tmp 4]⟩
/- loop.example/g03011/laws.heldActorS -/
def F20 : Fun := ⟨78,
  .seq (.reg [o 4 (.mv (.c (.int .i64 0)))])
  (.seq (.seq (.reg [o 5 (.mv (.c (.int .i64 0)))])
  (.block 0 (.loop (.seq (.seq (.reg [o 6 (.mv (.t 5)), o 7 (.mv (.t 0)), o 8 (.lenL (.t 7)), o 9 (.bin .lss (.t 6) (.t 8))])
    (.cond (.t 9) (.skip) (.exit 0)))
    (.seq (.block 1 (.seq (.seq (.reg [o 12 (.mv (.t 0)), o 13 (.mv (.t 5)), o 14 (.iaddr 7 (.t 12) (.t 13)), o 15 (.faddr 0 (.t 14)), o 16 (.load none (.t 15)), o 17 (.mv (.t 1)), o 18 (.bin .rem (.t 17) (.c (.int .i64 3))), o 19 (.bin .eql (.t 18) (.c (.int .i64 0))), o 20 (.binb .neq (.t 16) (.t 19))])
     (.cond (.t 20) (.seq (.reg [o 4 (.mv (.c (.int .i64 (-1))))])
      (.ret)) (.skip)))
     (.seq (.reg [o 21 (.mv (.t 1)), o 22 (.bin .add (.t 21) (.c (.int .i64 1))), o 1 (.mv (.t 22))])
     (.seq (.seq (.reg [o 23 (.mv (.t 0)), o 24 (.mv (.t 5)), o 25 (.iaddr 7 (.t 23) (.t 24)), o 26 (.faddr 1 (.t 25)), o 27 (.load none (.t 26)), o 28 (.mv (.t 1)), o 29 (.bin .neq (.t 27) (.t 28))])
     (.cond (.t 29) (.seq (.reg [o 4 (.mv (.c (.int .i64 (-1))))])
      (.ret)) (.skip)))
     (.seq (.reg [o 30 (.mv (.t 1)), o 31 (.bin .add (.t 30) (.c (.int .i64 1))), o 1 (.mv (.t 31))])
     (.seq (.seq (.reg [o 32 (.mv (.t 0)), o 33 (.mv (.t 5)), o 34 (.iaddr 7 (.t 32) (.t 33)), o 35 (.faddr 2 (.t 34)), o 36 (.load none (.t 35)), o 37 (.mv (.t 1)), o 38 (.bin .neq (.t 36) (.t 37))])
     (.cond (.t 38) (.seq (.reg [o 4 (.mv (.c (.int .i64 (-1))))])
      (.ret)) (.skip)))
     (.seq (.reg [o 39 (.mv (.t 1)), o 40 (.bin .add (.t 39) (.c (.int .i64 1))), o 1 (.mv (.t 40))])
     (.seq (.reg [o 41 (.mv (.t 0)), o 42 (.mv (.t 5)), o 43 (.iaddr 7 (.t 41) (.t 42)), o 44 (.faddr 3 (.t 43)), o 45 (.load none (.t 44)), o 46 (.mv (.t 1)), o 47 (.call 29 [(.t 45), (.t 46)]), o 1 (.mv (.t 47))])
     (.seq (.seq (.reg [o 48 (.mv (.t 1)), o 49 (.bin .lss (.t 48) (.c (.int .i64 0)))])
     (.cond (.t 49) (.seq (.reg [o 4 (.mv (.c (.int .i64 (-1))))])
      (.ret)) (.skip)))
     (.seq (.seq (.reg [o 50 (.mv (.t 0)), o 51 (.mv (.t 5)), o 52 (.iaddr 7 (.t 50) (.t 51)), o 53 (.faddr 4 (.t 52)), o 54 (.load none (.t 53)), o 55 (.mv (.t 1)), o 56 (.bin .neq (.t 54) (.t 55))])
     (.cond (.t 56) (.seq (.reg [o 4 (.mv (.c (.int .i64 (-1))))])
      (.ret)) (.skip)))
     (.seq (.reg [o 57 (.mv (.t 1)), o 58 (.bin .add (.t 57) (.c (.int .i64 1))), o 1 (.mv (.t 58))])
     (.seq (.seq (.reg [o 59 (.mv (.t 0)), o 60 (.mv (.t 5)), o 61 (.iaddr 7 (.t 59) (.t 60)), o 62 (.faddr 5 (.t 61)), o 63 (.load none (.t 62)), o 64 (.mv (.t 1)), o 65 (.bin .neq (.t 63) (.t 64))])
     (.cond (.t 65) (.seq (.reg [o 4 (.mv (.c (.int .i64 (-1))))])
      (.ret)) (.skip)))
     (.seq (.reg [o 66 (.mv (.t 1)), o 67 (.bin .add (.t 66) (.c (.int .i64 1))), o 1 (.mv (.t 67))])
     (.seq (.seq (.reg [o 68 (.mv (.t 0)), o 69 (.mv (.t 5)), o 70 (.iaddr 7 (.t 68) (.t 69)), o 71 (.faddr 6 (.t 70)), o 72 (.load none (.t 71)), o 73 (.mv (.t 1)), o 74 (.bin .neq (.t 72) (.t 73))])
     (.cond (.t 74) (.seq (.reg [o 4 (.mv (.c (.int .i64 (-1))))])
      (.ret)) (.skip)))
     (.reg [o 75 (.mv (.t 1)), o 76 (.bin .add (.t 75) (.c (.int .i64 1))), o 1 (.mv (.t 76))])))))))))))))))
    (.reg [o 10 (.mv (.t 5)), o 11 (.bin .add (.t 10) (.c (.int .i64 1))), o 5 (.mv (.t 11))]))))))
  (.seq (.reg [o 77 (.mv (.t 1)), o 4 (.mv (.t 77))])
  (.ret))),
  [.tmp 4]⟩
/- loop.example/g03011/laws.szServer -/
def F21 : Fun := ⟨42,
  .seq (.reg [o 2 (.box 8 (.t 0)), o 4 (.mv (.c (.int .i64 0)))])
  (.seq (.reg [o 5 (.faddr 0 (.t 2)), o 6 (.load none (.t 5)), o 7 (.mv (.t 1)), o 8 (.call 49 [(.t 6), (.t 7)]), o 1 (.mv (.t 8))])
  (.seq (.seq (.reg [o 9 (.mv (.t 1)), o 10 (.bin .lss (.t 9) (.c (.int .i64 0)))])
  (.cond (.t 10) (.seq (.reg [o 4 (.mv (.c (.int .i64 (-1))))])
   (.ret)) (.skip)))
  (.seq (.reg [o 11 (.faddr 1 (.t 2)), o 12 (.load none (.t 11)), o 13 (.mv (.t 1)), o 14 (.call 6 [(.t 12), (.t 13)]), o 1 (.mv (.t 14))])
  (.seq (.seq (.reg [o 15 (.mv (.t 1)), o 16 (.bin .lss (.t 15) (.c (.int .i64 0)))])
  (.cond (.t 16) (.seq (.reg [o 4 (.mv (.c (.int .i64 (-1))))])
   (.ret)) (.skip)))
  (.seq (.reg [o 17 (.faddr 2 (.t 2)), o 18 (.load none (.t 17)), o 19 (.mv (.t 1)), o 20 (.call 50 [(.t 18), (.t 19)]), o 1 (.mv (.t 20))])
  (.seq (.seq (.reg [o 21 (.mv (.t 1)), o 22 (.bin .lss (.t 21) (.c (.int .i64 0)))])
  (.cond (.t 22) (.seq (.reg [o 4 (.mv (.c (.int .i64 (-1))))])
   (.ret)) (.skip)))
  (.seq (.reg [o 23 (.faddr 3 (.t 2)), o 24 (.load none (.t 23)), o 25 (.mv (.t 1)), o 26 (.call 51 [(.t 24), (.t 25)]), o 1 (.mv (.t 26))])
  (.seq (.seq (.reg [o 27 (.mv (.t 1)), o 28 (.bin .lss (.t 27) (.c (.int .i64 0)))])
  (.cond (.t 28) (.seq (.reg [o 4 (.mv (.c (.int .i64 (-1))))])
   (.ret)) (.skip)))
  (.seq (.reg [o 29 (.faddr 4 (.t 2)), o 30 (.load none (.t 29)), o 31 (.mv (.t 1)), o 32 (.call 52 [(.t 30), (.t 31)]), o 1 (.mv (.t 32))])
  (.seq (.seq (.reg [o 33 (.mv (.t 1)), o 34 (.bin .lss (.t 33) (.c (.int .i64 0)))])
  (.cond (.t 34) (.seq (.reg [o 4 (.mv (.c (.int .i64 (-1))))])
   (.ret)) (.skip)))
  (.seq (.reg [o 35 (.faddr 5 (.t 2)), o 36 (.load none (.t 35)), o 37 (.mv (.t 1)), o 38 (.call 53 [(.t 36), (.t 37)]), o 1 (.mv (.t 38))])
  (.seq (.seq (.reg [o 39 (.mv (.t 1)), o 40 (.bin .lss (.t 39) (.c (.int .i64 0)))])
  (.cond (.t 40) (.seq (.reg [o 4 (.mv (.c (.int .i64 (-1))))])
   (.ret)) (.skip)))
  (.seq (.reg [o 41 (.mv (.t 1)), o 4 (.mv (.t 41))])
  (.ret)))))))))))))),
  [.tmp 4]⟩
/- loop.example/g03011/spec.JobPlaces -/
def F22 : Fun := ⟨71,
  .seq (.reg [o 2 (.box 8 (.t 0)), o 4 (.mv (.c (.int .i64 0)))])
  (.seq (.reg [o 5 (.mv (.c (.int .i64 0)))])
  (.seq (.seq (.reg [o 6 (.mv (.c (.int .i64 0)))])
  (.block 0 (.loop (.seq (.seq (.reg [o 9 (.mv (.t 6)), o 10 (.faddr 3 (.t 2)), o 11 (.load none (.t 10)), o 12 (.lenL (.t 11)), o 13 (.bin .lss (.t 9) (.t 12))])
    (.cond (.t 13) (.skip) (.exit 0)))
    (.seq (.block 1 (.seq (.reg [o 16 (.faddr 3 (.t 2)), o 17 (.load none (.t 16)), o 18 (.mv (.t 6)), o 19 (.iaddr 5 (.t 17) (.t 18)), o 20 (.faddr 0 (.t 19)), o 21 (.load none (.t 20)), o 22 (.mv (.t 1)), o 23 (.bin .eql (.t 21) (.t 22))])
     (.cond (.t 23) (.reg [o 24 (.mv (.t 5)), o 25 (.bin .add (.t 24) (.c (.int .i64 1))), o 5 (.mv (.t 25))]) (.skip))))
    (.reg [o 14 (.mv (.t 6)), o 15 (.bin .add (.t 14) (.c (.int .i64 1))), o 6 (.mv (.t 15))]))))))
  (.seq (.seq (.reg [o 7 (.mv (.c (.int .i64 0)))])
  (.block 2 (.loop (.seq (.seq (.reg [o 26 (.mv (.t 7)), o 27 (.faddr 4 (.t 2)), o 28 (.load none (.t 27)), o 29 (.lenL (.t 28)), o 30 (.bin .lss (.t 26) (.t 29))])
    (.cond (.t 30) (.skip) (.exit 2)))
    (.seq (.block 3 (.seq (.reg [o 33 (.faddr 4 (.t 2)), o 34 (.load none (.t 33)), o 35 (.mv (.t 7)), o 36 (.iaddr 9 (.t 34) (.t 35)), o 37 (.faddr 0 (.t 36)), o 38 (.load none (.t 37)), o 39 (.bin .eql (.t 38) (.c (.int .i64 1))), o 40 (.mv (.t 39)), og 41 (.faddr 4 (.t 2)) 40 true, og 42 (.load none (.t 41)) 40 true, og 43 (.mv (.t 7)) 40 true, og 44 (.iaddr 9 (.t 42) (.t 43)) 40 true, og 45 (.faddr 1 (.t 44)) 40 true, og 46 (.faddr 0 (.t 45)) 40 true, og 47 (.load none (.t 46)) 40 true, og 48 (.mv (.t 1)) 40 true, og 49 (.bin .eql (.t 47) (.t 48)) 40 true, o 50 (.pick (.t 40) (.t 49) (.c (.bool false)))])
     (.cond (.t 50) (.reg [o 51 (.mv (.t 5)), o 52 (.bin .add (.t 51) (.c (.int .i64 1))), o 5 (.mv (.t 52))]) (.skip))))
    (.reg [o 31 (.mv (.t 7)), o 32 (.bin .add (.t 31) (.c (.int .i64 1))), o 7 (.mv (.t 32))]))))))
  (.seq (.seq (.reg [o 8 (.mv (.c (.int .i64 0)))])
  (.block 4 (.loop (.seq (.seq (.reg [o 53 (.mv (.t 8)), o 54 (.faddr 5 (.t 2)), o 55 (.load none (.t 54)), o 56 (.lenL (.t 55)), o 57 (.bin .lss (.t 53) (.t 56))])
    (.cond (.t 57) (.skip) (.exit 4)))
    (.seq (.block 5 (.seq (.reg [o 60 (.faddr 5 (.t 2)), o 61 (.load none (.t 60)), o 62 (.mv (.t 8)), o 63 (.iaddr 11 (.t 61) (.t 62)), o 64 (.faddr 0 (.t 63)), o 65 (.load none (.t 64)), o 66 (.mv (.t 1)), o 67 (.bin .eql (.t 65) (.t 66))])
     (.cond (.t 67) (.reg [o 68 (.mv (.t 5)), o 69 (.bin .add (.t 68) (.c (.int .i64 1))), o 5 (.mv (.t 69))]) (.skip))))
    (.reg [o 58 (.mv (.t 8)), o 59 (.bin .add (.t 58) (.c (.int .i64 1))), o 8 (.mv (.t 59))]))))))
  (.seq (.reg [o 70 (.mv (.t 5)), o 4 (.mv (.t 70))])
  (.ret)))))),
  [.tmp 4]⟩
/- loop.example/g03011/laws.toServer -/
def F23 : Fun := ⟨35,
  .seq (.reg [o 1 (.box 8 (.t 0)), o 2 (.new 8 [.nsl, .nsl, .nsl, .nsl, .nsl, .nsl, (.int .i64 0), (.int .i64 0)])])
  (.seq (.reg [o 3 (.new 8 [.nsl, .nsl, .nsl, .nsl, .nsl, .nsl, (.int .i64 0), (.int .i64 0)])])
  (.seq (.reg [o 4 (.faddr 0 (.t 1)), o 5 (.load none (.t 4)), o 6 (.call 54 [(.t 5)]), o 7 (.faddr 0 (.t 3)), st (.store 1 (.t 7) (.t 6))])
  (.seq (.reg [o 8 (.faddr 1 (.t 1)), o 9 (.load none (.t 8)), o 10 (.call 9 [(.t 9)]), o 11 (.faddr 1 (.t 3)), st (.store 1 (.t 11) (.t 10))])
  (.seq (.reg [o 12 (.faddr 2 (.t 1)), o 13 (.load none (.t 12)), o 14 (.call 55 [(.t 13)]), o 15 (.faddr 2 (.t 3)), st (.store 1 (.t 15) (.t 14))])
  (.seq (.reg [o 16 (.faddr 3 (.t 1)), o 17 (.load none (.t 16)), o 18 (.call 56 [(.t 17)]), o 19 (.faddr 3 (.t 3)), st (.store 1 (.t 19) (.t 18))])
  (.seq (.reg [o 20 (.faddr 4 (.t 1)), o 21 (.load none (.t 20)), o 22 (.call 57 [(.t 21)]), o 23 (.faddr 4 (.t 3)), st (.store 1 (.t 23) (.t 22))])
  (.seq (.reg [o 24 (.faddr 5 (.t 1)), o 25 (.load none (.t 24)), o 26 (.call 58 [(.t 25)]), o 27 (.faddr 5 (.t 3)), st (.store 1 (.t 27) (.t 26))])
  (.seq (.reg [o 28 (.faddr 6 (.t 1)), o 29 (.load none (.t 28)), o 30 (.faddr 6 (.t 3)), st (.store 1 (.t 30) (.t 29))])
  (.seq (.reg [o 31 (.faddr 7 (.t 1)), o 32 (.load none (.t 31)), o 33 (.faddr 7 (.t 3)), st (.store 1 (.t 33) (.t 32))])
  (.seq (.reg [o 34 (.load (some 8) (.t 3)), st (.store 8 (.t 2) (.t 34))])
  (.ret))))))))))),
  [.cell 2 (some 8)]⟩
/- loop.example/g03011/impl.JobPlaces -/
def F24 : Fun := ⟨64,
  .seq (.reg [o 2 (.box 8 (.t 0)), o 4 (.mv (.c (.int .i64 0)))])
  (.seq (.reg [o 5 (.mv (.c (.int .i64 0)))])
  (.seq (.seq (.reg [o 12 (.faddr 3 (.t 2)), o 13 (.load none (.t 12)), o 14 (.lenL (.t 13)), o 15 (.mv (.c (.int .i64 0)))])
  (.block 0 (.loop (.seq (.reg [o 16 (.bin .lss (.t 15) (.t 14))])
    (.seq (.cond (.t 16) (.skip) (.exit 0))
    (.seq (.block 1 (.seq (.reg [o 17 (.iaddr 5 (.t 13) (.t 15)), o 18 (.load (some 5) (.t 17)), o 7 (.new 5 [(.int .i64 0), (.str []), .nsl, .nsl, (.str [])]), st (.store 5 (.t 7) (.t 18))])
     (.reg [o 19 (.mv (.t 5)), o 20 (.faddr 0 (.t 7)), o 21 (.load none (.t 20)), o 22 (.mv (.t 1)), o 23 (.bin .eql (.t 21) (.t 22)), o 24 (.call 59 [(.t 23)]), o 25 (.bin .add (.t 19) (.t 24)), o 5 (.mv (.t 25))])))
    (.reg [o 26 (.bin .add (.t 15) (.c (.int .i64 1))), o 15 (.mv (.t 26))])))))))
  (.seq (.seq (.reg [o 27 (.faddr 4 (.t 2)), o 28 (.load none (.t 27)), o 29 (.lenL (.t 28)), o 30 (.mv (.c (.int .i64 0)))])
  (.block 2 (.loop (.seq (.reg [o 31 (.bin .lss (.t 30) (.t 29))])
    (.seq (.cond (.t 31) (.skip) (.exit 2))
    (.seq (.block 3 (.seq (.reg [o 32 (.iaddr 9 (.t 28) (.t 30)), o 33 (.load (some 9) (.t 32)), o 9 (.new 9 [(.int .i64 0), (.int .i64 0), (.str []), .nsl, .nsl, (.str []), (.str []), .nsl, (.int .i64 0)]), st (.store 9 (.t 9) (.t 33))])
     (.reg [o 34 (.mv (.t 5)), o 35 (.faddr 0 (.t 9)), o 36 (.load none (.t 35)), o 37 (.bin .eql (.t 36) (.c (.int .i64 1))), o 38 (.mv (.t 37)), og 39 (.faddr 1 (.t 9)) 38 true, og 40 (.faddr 0 (.t 39)) 38 true, og 41 (.load none (.t 40)) 38 true, og 42 (.mv (.t 1)) 38 true, og 43 (.bin .eql (.t 41) (.t 42)) 38 true, o 44 (.pick (.t 38) (.t 43) (.c (.bool false))), o 45 (.call 59 [(.t 44)]), o 46 (.bin .add (.t 34) (.t 45)), o 5 (.mv (.t 46))])))
    (.reg [o 47 (.bin .add (.t 30) (.c (.int .i64 1))), o 30 (.mv (.t 47))])))))))
  (.seq (.seq (.reg [o 48 (.faddr 5 (.t 2)), o 49 (.load none (.t 48)), o 50 (.lenL (.t 49)), o 51 (.mv (.c (.int .i64 0)))])
  (.block 4 (.loop (.seq (.reg [o 52 (.bin .lss (.t 51) (.t 50))])
    (.seq (.cond (.t 52) (.skip) (.exit 4))
    (.seq (.block 5 (.seq (.reg [o 53 (.iaddr 11 (.t 49) (.t 51)), o 54 (.load (some 11) (.t 53)), o 11 (.new 11 [(.int .i64 0), (.str []), .nsl, (.str []), .nsl, .nsl, (.str []), (.int .i64 0), .nsl, (.str []), (.str [])]), st (.store 11 (.t 11) (.t 54))])
     (.reg [o 55 (.mv (.t 5)), o 56 (.faddr 0 (.t 11)), o 57 (.load none (.t 56)), o 58 (.mv (.t 1)), o 59 (.bin .eql (.t 57) (.t 58)), o 60 (.call 59 [(.t 59)]), o 61 (.bin .add (.t 55) (.t 60)), o 5 (.mv (.t 61))])))
    (.reg [o 62 (.bin .add (.t 51) (.c (.int .i64 1))), o 51 (.mv (.t 62))])))))))
  (.seq (.reg [o 63 (.mv (.t 5)), o 4 (.mv (.t 63))])
  (.ret)))))),
  [.tmp 4]⟩
/- loop.example/g03011/laws.eqServer -/
def F25 : Fun := ⟨51,
  .seq (.reg [o 2 (.box 8 (.t 0)), o 3 (.box 8 (.t 1)), o 4 (.mv (.c (.bool false)))])
  (.seq (.seq (.reg [o 5 (.faddr 0 (.t 2)), o 6 (.load none (.t 5)), o 7 (.faddr 0 (.t 3)), o 8 (.load none (.t 7)), o 9 (.call 60 [(.t 6), (.t 8)]), o 10 (.un .not (.t 9))])
  (.cond (.t 10) (.seq (.reg [o 4 (.mv (.c (.bool false)))])
   (.ret)) (.skip)))
  (.seq (.seq (.reg [o 11 (.faddr 1 (.t 2)), o 12 (.load none (.t 11)), o 13 (.faddr 1 (.t 3)), o 14 (.load none (.t 13)), o 15 (.call 13 [(.t 12), (.t 14)]), o 16 (.un .not (.t 15))])
  (.cond (.t 16) (.seq (.reg [o 4 (.mv (.c (.bool false)))])
   (.ret)) (.skip)))
  (.seq (.seq (.reg [o 17 (.faddr 2 (.t 2)), o 18 (.load none (.t 17)), o 19 (.faddr 2 (.t 3)), o 20 (.load none (.t 19)), o 21 (.call 61 [(.t 18), (.t 20)]), o 22 (.un .not (.t 21))])
  (.cond (.t 22) (.seq (.reg [o 4 (.mv (.c (.bool false)))])
   (.ret)) (.skip)))
  (.seq (.seq (.reg [o 23 (.faddr 3 (.t 2)), o 24 (.load none (.t 23)), o 25 (.faddr 3 (.t 3)), o 26 (.load none (.t 25)), o 27 (.call 62 [(.t 24), (.t 26)]), o 28 (.un .not (.t 27))])
  (.cond (.t 28) (.seq (.reg [o 4 (.mv (.c (.bool false)))])
   (.ret)) (.skip)))
  (.seq (.seq (.reg [o 29 (.faddr 4 (.t 2)), o 30 (.load none (.t 29)), o 31 (.faddr 4 (.t 3)), o 32 (.load none (.t 31)), o 33 (.call 63 [(.t 30), (.t 32)]), o 34 (.un .not (.t 33))])
  (.cond (.t 34) (.seq (.reg [o 4 (.mv (.c (.bool false)))])
   (.ret)) (.skip)))
  (.seq (.seq (.reg [o 35 (.faddr 5 (.t 2)), o 36 (.load none (.t 35)), o 37 (.faddr 5 (.t 3)), o 38 (.load none (.t 37)), o 39 (.call 64 [(.t 36), (.t 38)]), o 40 (.un .not (.t 39))])
  (.cond (.t 40) (.seq (.reg [o 4 (.mv (.c (.bool false)))])
   (.ret)) (.skip)))
  (.seq (.seq (.reg [o 41 (.faddr 6 (.t 2)), o 42 (.load none (.t 41)), o 43 (.faddr 6 (.t 3)), o 44 (.load none (.t 43)), o 45 (.bin .neq (.t 42) (.t 44))])
  (.cond (.t 45) (.seq (.reg [o 4 (.mv (.c (.bool false)))])
   (.ret)) (.skip)))
  (.seq (.seq (.reg [o 46 (.faddr 7 (.t 2)), o 47 (.load none (.t 46)), o 48 (.faddr 7 (.t 3)), o 49 (.load none (.t 48)), o 50 (.bin .neq (.t 47) (.t 49))])
  (.cond (.t 50) (.seq (.reg [o 4 (.mv (.c (.bool false)))])
   (.ret)) (.skip)))
  (.seq (.reg [o 4 (.mv (.c (.bool true)))])
  (.ret)))))))))),
  [.tmp 4]⟩
/- loop.example/g03011/spec.LostJobs -/
def F26 : Fun := ⟨22,
  .seq (.reg [o 1 (.box 8 (.t 0)), o 2 (.mv (.c .nsl))])
  (.seq (.reg [o 5 (.bslice 1 [(.int .i64 0)] 0 []), o 3 (.mv (.t 5))])
  (.seq (.seq (.reg [o 4 (.mv (.c (.int .i64 0)))])
  (.block 0 (.loop (.seq (.seq (.reg [o 6 (.mv (.t 4)), o 7 (.faddr 6 (.t 1)), o 8 (.load none (.t 7)), o 9 (.call 65 [(.t 8), (.c (.int .i64 20))]), o 10 (.bin .lss (.t 6) (.t 9))])
    (.cond (.t 10) (.skip) (.exit 0)))
    (.seq (.block 1 (.seq (.reg [o 13 (.load (some 8) (.t 1)), o 14 (.mv (.t 4)), o 15 (.call 22 [(.t 13), (.t 14)]), o 16 (.bin .neq (.t 15) (.c (.int .i64 1)))])
     (.cond (.t 16) (.reg [o 17 (.mv (.t 3)), o 18 (.mv (.t 4)), o 19 (.bslice 1 [(.int .i64 0)] 1 [(0, (.t 18))]), o 20 (.append 1 8 (.t 17) (.t 19)), o 3 (.mv (.t 20))]) (.skip))))
    (.reg [o 11 (.mv (.t 4)), o 12 (.bin .add (.t 11) (.c (.int .i64 1))), o 4 (.mv (.t 12))]))))))
  (.seq (.reg [o 21 (.mv (.t 3)), o 2 (.mv (.t 21))])
  (.ret)))),
  [.tmp 2]⟩
/- loop.example/g03011/impl.LostJobs -/
def F27 : Fun := ⟨22,
  .seq (.reg [o 1 (.box 8 (.t 0)), o 2 (.mv (.c .nsl))])
  (.seq (.reg [o 5 (.bslice 1 [(.int .i64 0)] 0 []), o 3 (.mv (.t 5))])
  (.seq (.seq (.reg [o 4 (.mv (.c (.int .i64 0)))])
  (.block 0 (.loop (.seq (.seq (.reg [o 6 (.mv (.t 4)), o 7 (.faddr 6 (.t 1)), o 8 (.load none (.t 7)), o 9 (.call 66 [(.t 8), (.c (.int .i64 20))]), o 10 (.bin .lss (.t 6) (.t 9))])
    (.cond (.t 10) (.skip) (.exit 0)))
    (.seq (.block 1 (.seq (.reg [o 13 (.load (some 8) (.t 1)), o 14 (.mv (.t 4)), o 15 (.call 24 [(.t 13), (.t 14)]), o 16 (.bin .neq (.t 15) (.c (.int .i64 1)))])
     (.cond (.t 16) (.reg [o 17 (.mv (.t 3)), o 18 (.mv (.t 4)), o 19 (.bslice 1 [(.int .i64 0)] 1 [(0, (.t 18))]), o 20 (.append 1 8 (.t 17) (.t 19)), o 3 (.mv (.t 20))]) (.skip))))
    (.reg [o 11 (.mv (.t 4)), o 12 (.bin .add (.t 11) (.c (.int .i64 1))), o 4 (.mv (.t 12))]))))))
  (.seq (.reg [o 21 (.mv (.t 3)), o 2 (.mv (.t 21))])
  (.ret)))),
  [.tmp 2]⟩
/- loop.example/g03011/laws.markServer -/
def F28 : Fun := ⟨30,
  .seq (.reg [o 2 (.box 8 (.t 0)), o 4 (.mv (.c (.int .i64 0)))])
  (.seq (.reg [o 5 (.faddr 0 (.t 2)), o 6 (.load none (.t 5)), o 7 (.mv (.t 1)), o 8 (.call 67 [(.t 6), (.t 7)]), o 1 (.mv (.t 8))])
  (.seq (.reg [o 9 (.faddr 1 (.t 2)), o 10 (.load none (.t 9)), o 11 (.mv (.t 1)), o 12 (.call 16 [(.t 10), (.t 11)]), o 1 (.mv (.t 12))])
  (.seq (.reg [o 13 (.faddr 2 (.t 2)), o 14 (.load none (.t 13)), o 15 (.mv (.t 1)), o 16 (.call 68 [(.t 14), (.t 15)]), o 1 (.mv (.t 16))])
  (.seq (.reg [o 17 (.faddr 3 (.t 2)), o 18 (.load none (.t 17)), o 19 (.mv (.t 1)), o 20 (.call 69 [(.t 18), (.t 19)]), o 1 (.mv (.t 20))])
  (.seq (.reg [o 21 (.faddr 4 (.t 2)), o 22 (.load none (.t 21)), o 23 (.mv (.t 1)), o 24 (.call 70 [(.t 22), (.t 23)]), o 1 (.mv (.t 24))])
  (.seq (.reg [o 25 (.faddr 5 (.t 2)), o 26 (.load none (.t 25)), o 27 (.mv (.t 1)), o 28 (.call 71 [(.t 26), (.t 27)]), o 1 (.mv (.t 28))])
  (.seq (.reg [o 29 (.mv (.t 1)), o 4 (.mv (.t 29))])
  (.ret)))))))),
  [.tmp 4]⟩
/- loop.example/g03011/laws.heldIntS -/
def F29 : Fun := ⟨21,
  .seq (.reg [o 4 (.mv (.c (.int .i64 0)))])
  (.seq (.seq (.reg [o 5 (.mv (.c (.int .i64 0)))])
  (.block 0 (.loop (.seq (.seq (.reg [o 6 (.mv (.t 5)), o 7 (.mv (.t 0)), o 8 (.lenL (.t 7)), o 9 (.bin .lss (.t 6) (.t 8))])
    (.cond (.t 9) (.skip) (.exit 0)))
    (.seq (.block 1 (.seq (.seq (.reg [o 12 (.mv (.t 0)), o 13 (.mv (.t 5)), o 14 (.iaddr 1 (.t 12) (.t 13)), o 15 (.load none (.t 14)), o 16 (.mv (.t 1)), o 17 (.bin .neq (.t 15) (.t 16))])
     (.cond (.t 17) (.seq (.reg [o 4 (.mv (.c (.int .i64 (-1))))])
      (.ret)) (.skip)))
     (.reg [o 18 (.mv (.t 1)), o 19 (.bin .add (.t 18) (.c (.int .i64 1))), o 1 (.mv (.t 19))])))
    (.reg [o 10 (.mv (.t 5)), o 11 (.bin .add (.t 10) (.c (.int .i64 1))), o 5 (.mv (.t 11))]))))))
  (.seq (.reg [o 20 (.mv (.t 1)), o 4 (.mv (.t 20))])
  (.ret))),
  [.tmp 4]⟩
/- loop.example/g03011/laws.szLine -/
def F30 : Fun := ⟨12,
  .seq (.reg [o 2 (.box 4 (.t 0)), o 4 (.mv (.c (.int .i64 0)))])
  (.seq (.reg [o 5 (.faddr 3 (.t 2)), o 6 (.load none (.t 5)), o 7 (.mv (.t 1)), o 8 (.call 72 [(.t 6), (.t 7)]), o 1 (.mv (.t 8))])
  (.seq (.seq (.reg [o 9 (.mv (.t 1)), o 10 (.bin .lss (.t 9) (.c (.int .i64 0)))])
  (.cond (.t 10) (.seq (.reg [o 4 (.mv (.c (.int .i64 (-1))))])
   (.ret)) (.skip)))
  (.seq (.reg [o 11 (.mv (.t 1)), o 4 (.mv (.t 11))])
  (.ret)))),
  [.tmp 4]⟩
/- loop.example/g03011/laws.szActor -/
def F31 : Fun := ⟨12,
  .seq (.reg [o 2 (.box 7 (.t 0)), o 4 (.mv (.c (.int .i64 0)))])
  (.seq (.reg [o 5 (.faddr 3 (.t 2)), o 6 (.load none (.t 5)), o 7 (.mv (.t 1)), o 8 (.call 72 [(.t 6), (.t 7)]), o 1 (.mv (.t 8))])
  (.seq (.seq (.reg [o 9 (.mv (.t 1)), o 10 (.bin .lss (.t 9) (.c (.int .i64 0)))])
  (.cond (.t 10) (.seq (.reg [o 4 (.mv (.c (.int .i64 (-1))))])
   (.ret)) (.skip)))
  (.seq (.reg [o 11 (.mv (.t 1)), o 4 (.mv (.t 11))])
  (.ret)))),
  [.tmp 4]⟩
/- loop.example/g03011/spec.l34Copy -/
def F32 : Fun := ⟨30,
  .seq (.reg [o 2 (.mv (.c .nsl))])
  (.seq (.reg [o 6 (.bslice 4 [(.int .i64 0), (.int .i64 0), (.int .i64 0), .nsl] 0 []), o 3 (.mv (.t 6))])
  (.seq (.seq (.reg [o 4 (.mv (.c (.int .i64 0)))])
  (.block 0 (.loop (.seq (.seq (.reg [o 7 (.mv (.t 4)), o 8 (.mv (.t 0)), o 9 (.lenL (.t 8)), o 10 (.bin .lss (.t 7) (.t 9))])
    (.cond (.t 10) (.skip) (.exit 0)))
    (.seq (.block 1 (.seq (.reg [o 13 (.mv (.t 0)), o 14 (.mv (.t 4)), o 15 (.iaddr 4 (.t 13) (.t 14)), o 16 (.load (some 4) (.t 15)), o 5 (.new 4 [(.int .i64 0), (.int .i64 0), (.int .i64 0), .nsl]), st (.store 4 (.t 5) (.t 16))])
     (.seq (.reg [o 17 (.bslice 1 [(.int .i64 0)] 0 []), o 18 (.mv (.t 0)), o 19 (.mv (.t 4)), o 20 (.iaddr 4 (.t 18) (.t 19)), o 21 (.faddr 3 (.t 20)), o 22 (.load none (.t 21)), o 23 (.append 1 8 (.t 17) (.t 22)), o 24 (.faddr 3 (.t 5)), st (.store 1 (.t 24) (.t 23))])
     (.reg [o 25 (.mv (.t 3)), o 26 (.load (some 4) (.t 5)), o 27 (.bslice 4 [(.int .i64 0), (.int .i64 0), (.int .i64 0), .nsl] 1 [(0, (.t 26))]), o 28 (.append 4 48 (.t 25) (.t 27)), o 3 (.mv (.t 28))]))))
    (.reg [o 11 (.mv (.t 4)), o 12 (.bin .add (.t 11) (.c (.int .i64 1))), o 4 (.mv (.t 12))]))))))
  (.seq (.reg [o 29 (.mv (.t 3)), o 2 (.mv (.t 29))])
  (.ret)))),
  [.tmp 2]⟩
/- loop.example/g03011/spec.l34Actors -/
def F33 : Fun := ⟨30,
  .seq (.reg [o 2 (.mv (.c .nsl))])
  (.seq (.reg [o 6 (.bslice 7 [(.bool false), (.int .i64 0), (.int .i64 0), .nsl, (.int .i64 0), (.int .i64 0), (.int .i64 0)] 0 []), o 3 (.mv (.t 6))])
  (.seq (.seq (.reg [o 4 (.mv (.c (.int .i64 0)))])
  (.block 0 (.loop (.seq (.seq (.reg [o 7 (.mv (.t 4)), o 8 (.mv (.t 0)), o 9 (.lenL (.t 8)), o 10 (.bin .lss (.t 7) (.t 9))])
    (.cond (.t 10) (.skip) (.exit 0)))
    (.seq (.block 1 (.seq (.reg [o 13 (.mv (.t 0)), o 14 (.mv (.t 4)), o 15 (.iaddr 7 (.t 13) (.t 14)), o 16 (.load (some 7) (.t 15)), o 5 (.new 7 [(.bool false), (.int .i64 0), (.int .i64 0), .nsl, (.int .i64 0), (.int .i64 0), (.int .i64 0)]), st (.store 7 (.t 5) (.t 16))])
     (.seq (.reg [o 17 (.bslice 1 [(.int .i64 0)] 0 []), o 18 (.mv (.t 0)), o 19 (.mv (.t 4)), o 20 (.iaddr 7 (.t 18) (.t 19)), o 21 (.faddr 3 (.t 20)), o 22 (.load none (.t 21)), o 23 (.append 1 8 (.t 17) (.t 22)), o 24 (.faddr 3 (.t 5)), st (.store 1 (.t 24) (.t 23))])
     (.reg [o 25 (.mv (.t 3)), o 26 (.load (some 7) (.t 5)), o 27 (.bslice 7 [(.bool false), (.int .i64 0), (.int .i64 0), .nsl, (.int .i64 0), (.int .i64 0), (.int .i64 0)] 1 [(0, (.t 26))]), o 28 (.append 7 72 (.t 25) (.t 27)), o 3 (.mv (.t 28))]))))
    (.reg [o 11 (.mv (.t 4)), o 12 (.bin .add (.t 11) (.c (.int .i64 1))), o 4 (.mv (.t 12))]))))))
  (.seq (.reg [o 29 (.mv (.t 3)), o 2 (.mv (.t 29))])
  (.ret)))),
  [.tmp 2]⟩
/- loop.example/g03011/spec.AreLines -/
def F34 : Fun := ⟨50,
  .seq (.reg [o 2 (.mv (.c (.bool false)))])
  (.seq (.seq (.reg [o 3 (.mv (.c (.int .i64 0)))])
  (.block 0 (.loop (.seq (.seq (.reg [o 5 (.mv (.t 3)), o 6 (.mv (.t 0)), o 7 (.lenL (.t 6)), o 8 (.bin .lss (.t 5) (.t 7))])
    (.cond (.t 8) (.skip) (.exit 0)))
    (.seq (.block 1 (.seq (.reg [o 11 (.mv (.t 0)), o 12 (.mv (.t 3)), o 13 (.iaddr 4 (.t 11) (.t 12)), o 14 (.load (some 4) (.t 13)), o 4 (.new 4 [(.int .i64 0), (.int .i64 0), (.int .i64 0), .nsl]), st (.store 4 (.t 4) (.t 14))])
     (.seq (.reg [o 15 (.faddr 0 (.t 4)), o 16 (.load none (.t 15)), o 17 (.call 73 [(.t 16), (.c (.int .i64 0)), (.c (.int .i64 1000000000000))]), o 18 (.un .not (.t 17)), o 19 (.mv (.t 18)), og 20 (.faddr 1 (.t 4)) 19 false, og 21 (.load none (.t 20)) 19 false, og 22 (.call 73 [(.t 21), (.c (.int .i64 0)), (.c (.int .i64 8))]) 19 false, og 23 (.un .not (.t 22)) 19 false, o 24 (.pick (.t 19) (.c (.bool true)) (.t 23)), o 25 (.mv (.t 24)), og 26 (.faddr 2 (.t 4)) 25 false, og 27 (.load none (.t 26)) 25 false, og 28 (.call 73 [(.t 27), (.c (.int .i64 0)), (.c (.int .i64 1000000000000))]) 25 false, og 29 (.un .not (.t 28)) 25 false, o 30 (.pick (.t 25) (.c (.bool true)) (.t 29)), o 31 (.mv (.t 30)), og 32 (.faddr 3 (.t 4)) 31 false, og 33 (.load none (.t 32)) 31 false, og 34 (.lenL (.t 33)) 31 false, og 35 (.bin .gtr (.t 34) (.c (.int .i64 4100))) 31 false, o 36 (.pick (.t 31) (.c (.bool true)) (.t 35)), o 37 (.mv (.t 36)), og 38 (.faddr 0 (.t 4)) 37 false, og 39 (.load none (.t 38)) 37 false, og 40 (.bin .rem (.t 39) (.c (.int .i64 2))) 37 false, og 41 (.bin .eql (.t 40) (.c (.int .i64 1))) 37 false, og 42 (.faddr 1 (.t 4)) 37 false, og 43 (.load none (.t 42)) 37 false, og 44 (.bin .gtr (.t 43) (.c (.int .i64 0))) 37 false, og 45 (.binb .neq (.t 41) (.t 44)) 37 false, o 46 (.pick (.t 37) (.c (.bool true)) (.t 45))])
     (.cond (.t 46) (.seq (.reg [o 2 (.mv (.c (.bool false)))])
      (.ret)) (.skip)))))
    (.reg [o 9 (.mv (.t 3)), o 10 (.bin .add (.t 9) (.c (.int .i64 1))), o 3 (.mv (.t 10))]))))))
  (.seq (.reg [o 47 (.mv (.t 0)), o 48 (.lenL (.t 47)), o 49 (.bin .leq (.t 48) (.c (.int .i64 8))), o 2 (.mv (.t 49))])
  (.ret))),
  [.tmp 2]⟩
/- loop.example/g03011/spec.AreActors -/
def F35 : Fun := ⟨60,
  .seq (.reg [o 2 (.mv (.c (.bool false)))])
  (.seq (.seq (.reg [o 3 (.mv (.c (.int .i64 0)))])
  (.block 0 (.loop (.seq (.seq (.reg [o 5 (.mv (.t 3)), o 6 (.mv (.t 0)), o 7 (.lenL (.t 6)), o 8 (.bin .lss (.t 5) (.t 7))])
    (.cond (.t 8) (.skip) (.exit 0)))
    (.seq (.block 1 (.seq (.reg [o 11 (.mv (.t 0)), o 12 (.mv (.t 3)), o 13 (.iaddr 7 (.t 11) (.t 12)), o 14 (.load (some 7) (.t 13)), o 4 (.new 7 [(.bool false), (.int .i64 0), (.int .i64 0), .nsl, (.int .i64 0), (.int .i64 0), (.int .i64 0)]), st (.store 7 (.t 4) (.t 14))])
     (.seq (.reg [o 15 (.faddr 1 (.t 4)), o 16 (.load none (.t 15)), o 17 (.call 73 [(.t 16), (.c (.int .i64 0)), (.c (.int .i64 7))]), o 18 (.un .not (.t 17)), o 19 (.mv (.t 18)), og 20 (.faddr 2 (.t 4)) 19 false, og 21 (.load none (.t 20)) 19 false, og 22 (.call 73 [(.t 21), (.c (.int .i64 1)), (.c (.int .i64 1000000000000))]) 19 false, og 23 (.un .not (.t 22)) 19 false, o 24 (.pick (.t 19) (.c (.bool true)) (.t 23)), o 25 (.mv (.t 24)), og 26 (.faddr 3 (.t 4)) 25 false, og 27 (.load none (.t 26)) 25 false, og 28 (.lenL (.t 27)) 25 false, og 29 (.bin .gtr (.t 28) (.c (.int .i64 4100))) 25 false, o 30 (.pick (.t 25) (.c (.bool true)) (.t 29)), o 31 (.mv (.t 30)), og 32 (.faddr 4 (.t 4)) 31 false, og 33 (.load none (.t 32)) 31 false, og 34 (.bin .neq (.t 33) (.c (.int .i64 0))) 31 false, o 35 (.pick (.t 31) (.c (.bool true)) (.t 34)), o 36 (.mv (.t 35)), og 37 (.faddr 5 (.t 4)) 36 false, og 38 (.load none (.t 37)) 36 false, og 39 (.bin .neq (.t 38) (.c (.int .i64 0))) 36 false, o 40 (.pick (.t 36) (.c (.bool true)) (.t 39)), o 41 (.mv (.t 40)), og 42 (.faddr 6 (.t 4)) 41 false, og 43 (.load none (.t 42)) 41 false, og 44 (.bin .neq (.t 43) (.c (.int .i64 0))) 41 false, o 45 (.pick (.t 41) (.c (.bool true)) (.t 44)), o 46 (.mv (.t 45)), og 47 (.faddr 0 (.t 4)) 46 false, og 48 (.load none (.t 47)) 46 false, og 49 (.un .not (.t 48)) 46 false, og 50 (.mv (.t 49)) 46 false, og 51 (.faddr 3 (.t 4)) 50 true, og 52 (.load none (.t 51)) 50 true, og 53 (.lenL (.t 52)) 50 true, og 54 (.bin .gtr (.t 53) (.c (.int .i64 0))) 50 true, og 55 (.pick (.t 50) (.t 54) (.c (.bool false))) 46 false, o 56 (.pick (.t 46) (.c (.bool true)) (.t 55))])
     (.cond (.t 56) (.seq (.reg [o 2 (.mv (.c (.bool false)))])
      (.ret)) (.skip)))))
    (.reg [o 9 (.mv (.t 3)), o 10 (.bin .add (.t 9) (.c (.int .i64 1))), o 3 (.mv (.t 10))]))))))
  (.seq (.reg [o 57 (.mv (.t 0)), o 58 (.lenL (.t 57)), o 59 (.bin .leq (.t 58) (.c (.int .i64 8))), o 2 (.mv (.t 59))])
  (.ret))),
  [.tmp 2]⟩
/- loop.example/g03011/spec.l34Access -/
def F36 : Fun := ⟨33,
  .seq (.reg [o 7 (.mv (.t 1)), o 8 (.mv (.t 2)), o 9 (.iaddr 7 (.t 7) (.t 8)), o 10 (.load (some 7) (.t 9)), o 6 (.new 7 [(.bool false), (.int .i64 0), (.int .i64 0), .nsl, (.int .i64 0), (.int .i64 0), (.int .i64 0)]), st (.store 7 (.t 6) (.t 10))])
  (.seq (.seq (.reg [o 11 (.faddr 1 (.t 6)), o 12 (.load none (.t 11)), o 13 (.bin .lss (.t 12) (.c (.int .i64 0))), o 14 (.mv (.t 13)), og 15 (.faddr 1 (.t 6)) 14 false, og 16 (.load none (.t 15)) 14 false, og 17 (.mv (.t 0)) 14 false, og 18 (.lenL (.t 17)) 14 false, og 19 (.bin .geq (.t 16) (.t 18)) 14 false, o 20 (.pick (.t 14) (.c (.bool true)) (.t 19))])
  (.cond (.t 20) (.ret) (.skip)))
  (.seq (.seq (.reg [o 21 (.faddr 0 (.t 6)), o 22 (.load none (.t 21))])
  (.cond (.t 22) (.reg [o 23 (.mv (.t 0)), o 24 (.mv (.t 2)), o 25 (.bin .add (.t 24) (.c (.int .i64 1))), o 26 (.call 74 [(.t 23), (.t 6), (.t 25)])]) (.reg [o 27 (.mv (.t 0)), o 28 (.call 75 [(.t 27), (.t 6)])])))
  (.reg [o 29 (.mv (.t 1)), o 30 (.mv (.t 2)), o 31 (.load (some 7) (.t 6)), o 32 (.iaddr 7 (.t 29) (.t 30)), st (.store 7 (.t 32) (.t 31))]))),
  []⟩
/- loop.example/g03011/spec.l34Recover -/
def F37 : Fun := ⟨28,
  .seq (.reg [o 4 (.mv (.c (.int .i64 0)))])
  (.block 0 (.loop (.seq (.seq (.reg [o 5 (.mv (.t 4)), o 6 (.mv (.t 0)), o 7 (.lenL (.t 6)), o 8 (.bin .lss (.t 5) (.t 7))])
    (.cond (.t 8) (.skip) (.exit 0)))
    (.seq (.block 1 (.seq (.reg [o 11 (.mv (.t 0)), o 12 (.mv (.t 4)), o 13 (.iaddr 4 (.t 11) (.t 12)), o 14 (.faddr 1 (.t 13)), o 15 (.load none (.t 14)), o 16 (.mv (.t 1)), o 17 (.bin .eql (.t 15) (.t 16))])
     (.cond (.t 17) (.reg [o 18 (.mv (.t 0)), o 19 (.mv (.t 4)), o 20 (.mv (.t 0)), o 21 (.mv (.t 4)), o 22 (.iaddr 4 (.t 20) (.t 21)), o 23 (.faddr 0 (.t 22)), o 24 (.load none (.t 23)), o 25 (.bin .add (.t 24) (.c (.int .i64 1))), o 26 (.build [(.int .i64 0), (.int .i64 0), (.int .i64 0), .nsl] [(0, 1, (.t 25))]), o 27 (.iaddr 4 (.t 18) (.t 19)), st (.store 4 (.t 27) (.t 26))]) (.skip))))
    (.reg [o 9 (.mv (.t 4)), o 10 (.bin .add (.t 9) (.c (.int .i64 1))), o 4 (.mv (.t 10))]))))),
  []⟩
/- loop.example/g03011/laws.toLine -/
def F38 : Fun := ⟨18,
  .seq (.reg [o 1 (.box 4 (.t 0)), o 2 (.new 4 [(.int .i64 0), (.int .i64 0), (.int .i64 0), .nsl])])
  (.seq (.reg [o 3 (.new 4 [(.int .i64 0), (.int .i64 0), (.int .i64 0), .nsl])])
  (.seq (.reg [o 4 (.faddr 0 (.t 1)), o 5 (.load none (.t 4)), o 6 (.faddr 0 (.t 3)), st (.store 1 (.t 6) (.t 5))])
  (.seq (.reg [o 7 (.faddr 1 (.t 1)), o 8 (.load none (.t 7)), o 9 (.faddr 1 (.t 3)), st (.store 1 (.t 9) (.t 8))])
  (.seq (.reg [o 10 (.faddr 2 (.t 1)), o 11 (.load none (.t 10)), o 12 (.faddr 2 (.t 3)), st (.store 1 (.t 12) (.t 11))])
  (.seq (.reg [o 13 (.faddr 3 (.t 1)), o 14 (.load none (.t 13)), o 15 (.call 11 [(.t 14)]), o 16 (.faddr 3 (.t 3)), st (.store 1 (.t 16) (.t 15))])
  (.seq (.reg [o 17 (.load (some 4) (.t 3)), st (.store 4 (.t 2) (.t 17))])
  (.ret))))))),
  [.cell 2 (some 4)]⟩
/- loop.example/g03011/laws.toActor -/
def F39 : Fun := ⟨27,
  .seq (.reg [o 1 (.box 7 (.t 0)), o 2 (.new 7 [(.bool false), (.int .i64 0), (.int .i64 0), .nsl, (.int .i64 0), (.int .i64 0), (.int .i64 0)])])
  (.seq (.reg [o 3 (.new 7 [(.bool false), (.int .i64 0), (.int .i64 0), .nsl, (.int .i64 0), (.int .i64 0), (.int .i64 0)])])
  (.seq (.reg [o 4 (.faddr 0 (.t 1)), o 5 (.load none (.t 4)), o 6 (.faddr 0 (.t 3)), st (.store 1 (.t 6) (.t 5))])
  (.seq (.reg [o 7 (.faddr 1 (.t 1)), o 8 (.load none (.t 7)), o 9 (.faddr 1 (.t 3)), st (.store 1 (.t 9) (.t 8))])
  (.seq (.reg [o 10 (.faddr 2 (.t 1)), o 11 (.load none (.t 10)), o 12 (.faddr 2 (.t 3)), st (.store 1 (.t 12) (.t 11))])
  (.seq (.reg [o 13 (.faddr 3 (.t 1)), o 14 (.load none (.t 13)), o 15 (.call 11 [(.t 14)]), o 16 (.faddr 3 (.t 3)), st (.store 1 (.t 16) (.t 15))])
  (.seq (.reg [o 17 (.faddr 4 (.t 1)), o 18 (.load none (.t 17)), o 19 (.faddr 4 (.t 3)), st (.store 1 (.t 19) (.t 18))])
  (.seq (.reg [o 20 (.faddr 5 (.t 1)), o 21 (.load none (.t 20)), o 22 (.faddr 5 (.t 3)), st (.store 1 (.t 22) (.t 21))])
  (.seq (.reg [o 23 (.faddr 6 (.t 1)), o 24 (.load none (.t 23)), o 25 (.faddr 6 (.t 3)), st (.store 1 (.t 25) (.t 24))])
  (.seq (.reg [o 26 (.load (some 7) (.t 3)), st (.store 7 (.t 2) (.t 26))])
  (.ret)))))))))),
  [.cell 2 (some 7)]⟩
/- loop.example/g03011/impl.copyLines -/
def F40 : Fun := ⟨24,
  .seq (.reg [o 2 (.mv (.c .nsl))])
  (.seq (.reg [o 6 (.mv (.t 0)), o 7 (.call 76 [(.t 6)]), o 3 (.mv (.t 7))])
  (.seq (.seq (.reg [o 8 (.mv (.t 0)), o 9 (.lenL (.t 8)), o 10 (.mv (.c (.int .i64 0)))])
  (.block 0 (.loop (.seq (.reg [o 11 (.bin .lss (.t 10) (.t 9))])
    (.seq (.cond (.t 11) (.skip) (.exit 0))
    (.seq (.block 1 (.seq (.reg [o 12 (.mv (.t 10)), o 13 (.iaddr 4 (.t 8) (.t 10)), o 14 (.load (some 4) (.t 13)), o 5 (.new 4 [(.int .i64 0), (.int .i64 0), (.int .i64 0), .nsl]), o 4 (.mv (.t 12)), st (.store 4 (.t 5) (.t 14))])
     (.reg [o 15 (.mv (.t 3)), o 16 (.mv (.t 4)), o 17 (.faddr 3 (.t 5)), o 18 (.load none (.t 17)), o 19 (.call 42 [(.t 18)]), o 20 (.iaddr 4 (.t 15) (.t 16)), o 21 (.faddr 3 (.t 20)), st (.store 1 (.t 21) (.t 19))])))
    (.reg [o 22 (.bin .add (.t 10) (.c (.int .i64 1))), o 10 (.mv (.t 22))])))))))
  (.seq (.reg [o 23 (.mv (.t 3)), o 2 (.mv (.t 23))])
  (.ret)))),
  [.tmp 2]⟩
/- slices.Clone[[]loop.example/g03011/impl.Actor,loop.example/g03011/impl.Actor] -/
def F41 : Fun := ⟨8,
  .seq (.reg [o 2 (.mv (.c .nsl))])
  (.seq (.seq (.reg [o 3 (.mv (.t 0)), o 4 (.isnl false (.t 3))])
  (.cond (.t 4) (.seq (.reg [o 2 (.mv (.c .nsl))])
   (.ret)) (.skip)))
  (.seq (.reg [o 5 (.bslice 7 [(.bool false), (.int .i64 0), (.int .i64 0), .nsl, (.int .i64 0), (.int .i64 0), (.int .i64 0)] 0 []), o 6 (.mv (.t 0)), o 7 (.append 7 72 (.t 5) (.t 6)), o 2 (.mv (.t 7))])
  (.ret))),
  [.tmp 2]⟩
/- slices.Clone[[]int,int] -/
def F42 : Fun := ⟨8,
  .seq (.reg [o 2 (.mv (.c .nsl))])
  (.seq (.seq (.reg [o 3 (.mv (.t 0)), o 4 (.isnl false (.t 3))])
  (.cond (.t 4) (.seq (.reg [o 2 (.mv (.c .nsl))])
   (.ret)) (.skip)))
  (.seq (.reg [o 5 (.bslice 1 [(.int .i64 0)] 0 []), o 6 (.mv (.t 0)), o 7 (.append 1 8 (.t 5) (.t 6)), o 2 (.mv (.t 7))])
  (.ret))),
  [.tmp 2]⟩
/- loop.example/g03011/impl.AreLines -/
def F43 : Fun := ⟨47,
  .seq (.reg [o 2 (.mv (.c (.bool false)))])
  (.seq (.seq (.reg [o 5 (.mv (.t 0)), o 6 (.lenL (.t 5)), o 7 (.mv (.c (.int .i64 0)))])
  (.block 0 (.loop (.seq (.reg [o 8 (.bin .lss (.t 7) (.t 6))])
    (.seq (.cond (.t 8) (.skip) (.exit 0))
    (.seq (.block 1 (.seq (.reg [o 9 (.iaddr 4 (.t 5) (.t 7)), o 10 (.load (some 4) (.t 9)), o 4 (.new 4 [(.int .i64 0), (.int .i64 0), (.int .i64 0), .nsl]), st (.store 4 (.t 4) (.t 10))])
     (.seq (.reg [o 11 (.faddr 0 (.t 4)), o 12 (.load none (.t 11)), o 13 (.call 77 [(.t 12), (.c (.int .i64 0)), (.c (.int .i64 1000000000000))]), o 14 (.un .not (.t 13)), o 15 (.mv (.t 14)), og 16 (.faddr 2 (.t 4)) 15 false, og 17 (.load none (.t 16)) 15 false, og 18 (.call 77 [(.t 17), (.c (.int .i64 0)), (.c (.int .i64 1000000000000))]) 15 false, og 19 (.un .not (.t 18)) 15 false, o 20 (.pick (.t 15) (.c (.bool true)) (.t 19)), o 21 (.mv (.t 20)), og 22 (.faddr 1 (.t 4)) 21 false, og 23 (.load none (.t 22)) 21 false, og 24 (.call 77 [(.t 23), (.c (.int .i64 0)), (.c (.int .i64 8))]) 21 false, og 25 (.un .not (.t 24)) 21 false, o 26 (.pick (.t 21) (.c (.bool true)) (.t 25)), o 27 (.mv (.t 26)), og 28 (.faddr 3 (.t 4)) 27 false, og 29 (.load none (.t 28)) 27 false, og 30 (.lenL (.t 29)) 27 false, og 31 (.bin .gtr (.t 30) (.c (.int .i64 4100))) 27 false, o 32 (.pick (.t 27) (.c (.bool true)) (.t 31)), o 33 (.mv (.t 32)), og 34 (.faddr 0 (.t 4)) 33 false, og 35 (.load none (.t 34)) 33 false, og 36 (.bin .rem (.t 35) (.c (.int .i64 2))) 33 false, og 37 (.bin .eql (.t 36) (.c (.int .i64 1))) 33 false, og 38 (.faddr 1 (.t 4)) 33 false, og 39 (.load none (.t 38)) 33 false, og 40 (.bin .gtr (.t 39) (.c (.int .i64 0))) 33 false, og 41 (.binb .neq (.t 37) (.t 40)) 33 false, o 42 (.pick (.t 33) (.c (.bool true)) (.t 41))])
     (.cond (.t 42) (.seq (.reg [o 2 (.mv (.c (.bool false)))])
      (.ret)) (.skip)))))
    (.reg [o 43 (.bin .add (.t 7) (.c (.int .i64 1))), o 7 (.mv (.t 43))])))))))
  (.seq (.reg [o 44 (.mv (.t 0)), o 45 (.lenL (.t 44)), o 46 (.bin .leq (.t 45) (.c (.int .i64 8))), o 2 (.mv (.t 46))])
  (.ret))),
  [.tmp 2]⟩
/- loop.example/g03011/impl.AreActors -/
def F44 : Fun := ⟨57,
  .seq (.reg [o 2 (.mv (.c (.bool false)))])
  (.seq (.seq (.reg [o 5 (.mv (.t 0)), o 6 (.lenL (.t 5)), o 7 (.mv (.c (.int .i64 0)))])
  (.block 0 (.loop (.seq (.reg [o 8 (.bin .lss (.t 7) (.t 6))])
    (.seq (.cond (.t 8) (.skip) (.exit 0))
    (.seq (.block 1 (.seq (.reg [o 9 (.iaddr 7 (.t 5) (.t 7)), o 10 (.load (some 7) (.t 9)), o 4 (.new 7 [(.bool false), (.int .i64 0), (.int .i64 0), .nsl, (.int .i64 0), (.int .i64 0), (.int .i64 0)]), st (.store 7 (.t 4) (.t 10))])
     (.seq (.reg [o 11 (.faddr 1 (.t 4)), o 12 (.load none (.t 11)), o 13 (.call 77 [(.t 12), (.c (.int .i64 0)), (.c (.int .i64 7))]), o 14 (.un .not (.t 13)), o 15 (.mv (.t 14)), og 16 (.faddr 2 (.t 4)) 15 false, og 17 (.load none (.t 16)) 15 false, og 18 (.call 77 [(.t 17), (.c (.int .i64 1)), (.c (.int .i64 1000000000000))]) 15 false, og 19 (.un .not (.t 18)) 15 false, o 20 (.pick (.t 15) (.c (.bool true)) (.t 19)), o 21 (.mv (.t 20)), og 22 (.faddr 3 (.t 4)) 21 false, og 23 (.load none (.t 22)) 21 false, og 24 (.lenL (.t 23)) 21 false, og 25 (.bin .gtr (.t 24) (.c (.int .i64 4100))) 21 false, o 26 (.pick (.t 21) (.c (.bool true)) (.t 25)), o 27 (.mv (.t 26)), og 28 (.faddr 0 (.t 4)) 27 false, og 29 (.load none (.t 28)) 27 false, og 30 (.un .not (.t 29)) 27 false, og 31 (.mv (.t 30)) 27 false, og 32 (.faddr 3 (.t 4)) 31 true, og 33 (.load none (.t 32)) 31 true, og 34 (.lenL (.t 33)) 31 true, og 35 (.bin .gtr (.t 34) (.c (.int .i64 0))) 31 true, og 36 (.pick (.t 31) (.t 35) (.c (.bool false))) 27 false, o 37 (.pick (.t 27) (.c (.bool true)) (.t 36)), o 38 (.mv (.t 37)), og 39 (.faddr 4 (.t 4)) 38 false, og 40 (.load none (.t 39)) 38 false, og 41 (.bin .neq (.t 40) (.c (.int .i64 0))) 38 false, o 42 (.pick (.t 38) (.c (.bool true)) (.t 41)), o 43 (.mv (.t 42)), og 44 (.faddr 5 (.t 4)) 43 false, og 45 (.load none (.t 44)) 43 false, og 46 (.bin .neq (.t 45) (.c (.int .i64 0))) 43 false, o 47 (.pick (.t 43) (.c (.bool true)) (.t 46)), o 48 (.mv (.t 47)), og 49 (.faddr 6 (.t 4)) 48 false, og 50 (.load none (.t 49)) 48 false, og 51 (.bin .neq (.t 50) (.c (.int .i64 0))) 48 false, o 52 (.pick (.t 48) (.c (.bool true)) (.t 51))])
     (.cond (.t 52) (.seq (.reg [o 2 (.mv (.c (.bool false)))])
      (.ret)) (.skip)))))
    (.reg [o 53 (.bin .add (.t 7) (.c (.int .i64 1))), o 7 (.mv (.t 53))])))))))
  (.seq (.reg [o 54 (.mv (.t 0)), o 55 (.lenL (.t 54)), o 56 (.bin .leq (.t 55) (.c (.int .i64 8))), o 2 (.mv (.t 56))])
  (.ret))),
  [.tmp 2]⟩
/- loop.example/g03011/impl.accessLine -/
def F45 : Fun := ⟨106,
  .seq (.reg [o 8 (.mv (.t 1)), o 9 (.mv (.t 2)), o 10 (.iaddr 7 (.t 8) (.t 9)), o 6 (.mv (.t 10))])
  (.seq (.seq (.reg [o 11 (.mv (.t 6)), o 12 (.nilck (.t 11)), o 13 (.faddr 4 (.t 12)), o 14 (.load none (.t 13)), o 15 (.bin .neq (.t 14) (.c (.int .i64 0))), o 16 (.mv (.t 15)), og 17 (.mv (.t 6)) 16 true, og 18 (.nilck (.t 17)) 16 true, og 19 (.faddr 4 (.t 18)) 16 true, og 20 (.load none (.t 19)) 16 true, og 21 (.bin .neq (.t 20) (.c (.int .i64 1))) 16 true, o 22 (.pick (.t 16) (.t 21) (.c (.bool false))), o 23 (.mv (.t 22)), og 24 (.mv (.t 6)) 23 false, og 25 (.nilck (.t 24)) 23 false, og 26 (.faddr 1 (.t 25)) 23 false, og 27 (.load none (.t 26)) 23 false, og 28 (.mv (.t 0)) 23 false, og 29 (.lenL (.t 28)) 23 false, og 30 (.bin .geq (.t 27) (.t 29)) 23 false, o 31 (.pick (.t 23) (.c (.bool true)) (.t 30))])
  (.cond (.t 31) (.ret) (.skip)))
  (.seq (.reg [o 32 (.mv (.t 0)), o 33 (.mv (.t 6)), o 34 (.nilck (.t 33)), o 35 (.faddr 1 (.t 34)), o 36 (.load none (.t 35)), o 37 (.iaddr 4 (.t 32) (.t 36)), o 7 (.mv (.t 37))])
  (.block 0 (.seq (.reg [o 42 (.mv (.t 6)), o 43 (.nilck (.t 42)), o 44 (.faddr 4 (.t 43)), o 45 (.load none (.t 44)), o 46 (.bin .eql (.t 45) (.c (.int .i64 0))), o 47 (.mv (.t 46)), og 48 (.mv (.t 7)) 47 true, og 49 (.nilck (.t 48)) 47 true, og 50 (.faddr 0 (.t 49)) 47 true, og 51 (.load none (.t 50)) 47 true, og 52 (.bin .rem (.t 51) (.c (.int .i64 2))) 47 true, og 53 (.bin .eql (.t 52) (.c (.int .i64 1))) 47 true, o 54 (.pick (.t 47) (.t 53) (.c (.bool false))), o 41 (.mv (.t 54))])
   (.cond (.t 41) (.seq (.reg [o 55 (.mv (.t 6)), o 56 (.nilck (.t 55)), o 57 (.faddr 0 (.t 56)), o 58 (.load none (.t 57)), o 59 (.un .not (.t 58))])
    (.cond (.t 59) (.reg [o 60 (.mv (.t 6)), o 61 (.nilck (.t 60)), o 62 (.faddr 4 (.t 61)), st (.store 1 (.t 62) (.c (.int .i64 3)))]) (.skip))) (.seq (.reg [o 64 (.mv (.t 6)), o 65 (.nilck (.t 64)), o 66 (.faddr 4 (.t 65)), o 67 (.load none (.t 66)), o 68 (.bin .eql (.t 67) (.c (.int .i64 0))), o 63 (.mv (.t 68))])
    (.cond (.t 63) (.seq (.reg [o 69 (.mv (.t 6)), o 70 (.nilck (.t 69)), o 71 (.faddr 4 (.t 70)), st (.store 1 (.t 71) (.c (.int .i64 1)))])
     (.seq (.reg [o 72 (.mv (.t 6)), o 73 (.nilck (.t 72)), o 74 (.faddr 5 (.t 73)), st (.store 1 (.t 74) (.c (.int .i64 0)))])
     (.seq (.reg [o 75 (.mv (.t 6)), o 76 (.nilck (.t 75)), o 77 (.faddr 0 (.t 76)), o 78 (.load none (.t 77))])
     (.cond (.t 78) (.seq (.reg [o 79 (.mv (.t 7)), o 80 (.nilck (.t 79)), o 81 (.faddr 0 (.t 80)), o 82 (.load none (.t 81)), o 83 (.bin .add (.t 82) (.c (.int .i64 1))), o 84 (.nilck (.t 79)), o 85 (.faddr 0 (.t 84)), st (.store 1 (.t 85) (.t 83))])
      (.reg [o 86 (.mv (.t 7)), o 87 (.mv (.t 2)), o 88 (.bin .add (.t 87) (.c (.int .i64 1))), o 89 (.nilck (.t 86)), o 90 (.faddr 1 (.t 89)), st (.store 1 (.t 90) (.t 88))])) (.reg [o 91 (.mv (.t 6)), o 92 (.mv (.t 7)), o 93 (.nilck (.t 92)), o 94 (.faddr 0 (.t 93)), o 95 (.load none (.t 94)), o 96 (.nilck (.t 91)), o 97 (.faddr 6 (.t 96)), st (.store 1 (.t 97) (.t 95))]))))) (.seq (.reg [o 99 (.mv (.t 6)), o 100 (.nilck (.t 99)), o 101 (.faddr 0 (.t 100)), o 102 (.load none (.t 101)), o 98 (.mv (.t 102))])
     (.cond (.t 98) (.reg [o 103 (.mv (.t 7)), o 104 (.mv (.t 6)), o 105 (.call 78 [(.t 103), (.t 104)])]) (.reg [o 38 (.mv (.t 7)), o 39 (.mv (.t 6)), o 40 (.call 79 [(.t 38), (.t 39)])])))))))))),
  []⟩
/- loop.example/g03011/impl.recoverLines -/
def F46 : Fun := ⟨25,
  .seq (.reg [o 6 (.mv (.t 0)), o 7 (.lenL (.t 6)), o 8 (.mv (.c (.int .i64 0)))])
  (.block 0 (.loop (.seq (.reg [o 9 (.bin .lss (.t 8) (.t 7))])
    (.seq (.cond (.t 9) (.skip) (.exit 0))
    (.seq (.block 1 (.seq (.reg [o 10 (.mv (.t 8)), o 11 (.iaddr 4 (.t 6) (.t 8)), o 12 (.load (some 4) (.t 11)), o 5 (.new 4 [(.int .i64 0), (.int .i64 0), (.int .i64 0), .nsl]), o 4 (.mv (.t 10)), st (.store 4 (.t 5) (.t 12))])
     (.seq (.reg [o 13 (.faddr 1 (.t 5)), o 14 (.load none (.t 13)), o 15 (.mv (.t 1)), o 16 (.bin .eql (.t 14) (.t 15))])
     (.cond (.t 16) (.reg [o 17 (.mv (.t 0)), o 18 (.mv (.t 4)), o 19 (.faddr 0 (.t 5)), o 20 (.load none (.t 19)), o 21 (.bin .add (.t 20) (.c (.int .i64 1))), o 22 (.build [(.int .i64 0), (.int .i64 0), (.int .i64 0), .nsl] [(0, 1, (.t 21))]), o 23 (.iaddr 4 (.t 17) (.t 18)), st (.store 4 (.t 23) (.t 22))]) (.skip)))))
    (.reg [o 24 (.bin .add (.t 8) (.c (.int .i64 1))), o 8 (.mv (.t 24))])))))),
  []⟩
/- loop.example/g03011/laws.eqLine -/
def F47 : Fun := ⟨26,
  .seq (.reg [o 2 (.box 4 (.t 0)), o 3 (.box 4 (.t 1)), o 4 (.mv (.c (.bool false)))])
  (.seq (.seq (.reg [o 5 (.faddr 0 (.t 2)), o 6 (.load none (.t 5)), o 7 (.faddr 0 (.t 3)), o 8 (.load none (.t 7)), o 9 (.bin .neq (.t 6) (.t 8))])
  (.cond (.t 9) (.seq (.reg [o 4 (.mv (.c (.bool false)))])
   (.ret)) (.skip)))
  (.seq (.seq (.reg [o 10 (.faddr 1 (.t 2)), o 11 (.load none (.t 10)), o 12 (.faddr 1 (.t 3)), o 13 (.load none (.t 12)), o 14 (.bin .neq (.t 11) (.t 13))])
  (.cond (.t 14) (.seq (.reg [o 4 (.mv (.c (.bool false)))])
   (.ret)) (.skip)))
  (.seq (.seq (.reg [o 15 (.faddr 2 (.t 2)), o 16 (.load none (.t 15)), o 17 (.faddr 2 (.t 3)), o 18 (.load none (.t 17)), o 19 (.bin .neq (.t 16) (.t 18))])
  (.cond (.t 19) (.seq (.reg [o 4 (.mv (.c (.bool false)))])
   (.ret)) (.skip)))
  (.seq (.seq (.reg [o 20 (.faddr 3 (.t 2)), o 21 (.load none (.t 20)), o 22 (.faddr 3 (.t 3)), o 23 (.load none (.t 22)), o 24 (.call 15 [(.t 21), (.t 23)]), o 25 (.un .not (.t 24))])
  (.cond (.t 25) (.seq (.reg [o 4 (.mv (.c (.bool false)))])
   (.ret)) (.skip)))
  (.seq (.reg [o 4 (.mv (.c (.bool true)))])
  (.ret)))))),
  [.tmp 4]⟩
/- loop.example/g03011/laws.eqActor -/
def F48 : Fun := ⟨41,
  .seq (.reg [o 2 (.box 7 (.t 0)), o 3 (.box 7 (.t 1)), o 4 (.mv (.c (.bool false)))])
  (.seq (.seq (.reg [o 5 (.faddr 0 (.t 2)), o 6 (.load none (.t 5)), o 7 (.faddr 0 (.t 3)), o 8 (.load none (.t 7)), o 9 (.binb .neq (.t 6) (.t 8))])
  (.cond (.t 9) (.seq (.reg [o 4 (.mv (.c (.bool false)))])
   (.ret)) (.skip)))
  (.seq (.seq (.reg [o 10 (.faddr 1 (.t 2)), o 11 (.load none (.t 10)), o 12 (.faddr 1 (.t 3)), o 13 (.load none (.t 12)), o 14 (.bin .neq (.t 11) (.t 13))])
  (.cond (.t 14) (.seq (.reg [o 4 (.mv (.c (.bool false)))])
   (.ret)) (.skip)))
  (.seq (.seq (.reg [o 15 (.faddr 2 (.t 2)), o 16 (.load none (.t 15)), o 17 (.faddr 2 (.t 3)), o 18 (.load none (.t 17)), o 19 (.bin .neq (.t 16) (.t 18))])
  (.cond (.t 19) (.seq (.reg [o 4 (.mv (.c (.bool false)))])
   (.ret)) (.skip)))
  (.seq (.seq (.reg [o 20 (.faddr 3 (.t 2)), o 21 (.load none (.t 20)), o 22 (.faddr 3 (.t 3)), o 23 (.load none (.t 22)), o 24 (.call 15 [(.t 21), (.t 23)]), o 25 (.un .not (.t 24))])
  (.cond (.t 25) (.seq (.reg [o 4 (.mv (.c (.bool false)))])
   (.ret)) (.skip)))
  (.seq (.seq (.reg [o 26 (.faddr 4 (.t 2)), o 27 (.load none (.t 26)), o 28 (.faddr 4 (.t 3)), o 29 (.load none (.t 28)), o 30 (.bin .neq (.t 27) (.t 29))])
  (.cond (.t 30) (.seq (.reg [o 4 (.mv (.c (.bool false)))])
   (.ret)) (.skip)))
  (.seq (.seq (.reg [o 31 (.faddr 5 (.t 2)), o 32 (.load none (.t 31)), o 33 (.faddr 5 (.t 3)), o 34 (.load none (.t 33)), o 35 (.bin .neq (.t 32) (.t 34))])
  (.cond (.t 35) (.seq (.reg [o 4 (.mv (.c (.bool false)))])
   (.ret)) (.skip)))
  (.seq (.seq (.reg [o 36 (.faddr 6 (.t 2)), o 37 (.load none (.t 36)), o 38 (.faddr 6 (.t 3)), o 39 (.load none (.t 38)), o 40 (.bin .neq (.t 37) (.t 39))])
  (.cond (.t 40) (.seq (.reg [o 4 (.mv (.c (.bool false)))])
   (.ret)) (.skip)))
  (.seq (.reg [o 4 (.mv (.c (.bool true)))])
  (.ret))))))))),
  [.tmp 4]⟩
/- loop.example/g03011/laws.szFileS -/
def F49 : Fun := ⟨27,
  .seq (.reg [o 4 (.mv (.c (.int .i64 0)))])
  (.seq (.reg [o 6 (.mv (.t 1)), o 7 (.mv (.t 0)), o 8 (.lenL (.t 7)), o 9 (.bin .sub (.t 6) (.t 8)), o 1 (.mv (.t 9))])
  (.seq (.seq (.reg [o 10 (.mv (.t 1)), o 11 (.bin .lss (.t 10) (.c (.int .i64 0)))])
  (.cond (.t 11) (.seq (.reg [o 4 (.mv (.c (.int .i64 (-1))))])
   (.ret)) (.skip)))
  (.seq (.seq (.reg [o 5 (.mv (.c (.int .i64 0)))])
  (.block 0 (.loop (.seq (.seq (.reg [o 12 (.mv (.t 5)), o 13 (.mv (.t 0)), o 14 (.lenL (.t 13)), o 15 (.bin .lss (.t 12) (.t 14))])
    (.cond (.t 15) (.skip) (.exit 0)))
    (.seq (.block 1 (.seq (.reg [o 18 (.mv (.t 0)), o 19 (.mv (.t 5)), o 20 (.iaddr 3 (.t 18) (.t 19)), o 21 (.load (some 3) (.t 20)), o 22 (.mv (.t 1)), o 23 (.call 80 [(.t 21), (.t 22)]), o 1 (.mv (.t 23))])
     (.seq (.reg [o 24 (.mv (.t 1)), o 25 (.bin .lss (.t 24) (.c (.int .i64 0)))])
     (.cond (.t 25) (.seq (.reg [o 4 (.mv (.c (.int .i64 (-1))))])
      (.ret)) (.skip)))))
    (.reg [o 16 (.mv (.t 5)), o 17 (.bin .add (.t 16) (.c (.int .i64 1))), o 5 (.mv (.t 17))]))))))
  (.seq (.reg [o 26 (.mv (.t 1)), o 4 (.mv (.t 26))])
  (.ret))))),
  [.tmp 4]⟩
/- loop.example/g03011/laws.szSessionS -/
def F50 : Fun := ⟨27,
  .seq (.reg [o 4 (.mv (.c (.int .i64 0)))])
  (.seq (.reg [o 6 (.mv (.t 1)), o 7 (.mv (.t 0)), o 8 (.lenL (.t 7)), o 9 (.bin .sub (.t 6) (.t 8)), o 1 (.mv (.t 9))])
  (.seq (.seq (.reg [o 10 (.mv (.t 1)), o 11 (.bin .lss (.t 10) (.c (.int .i64 0)))])
  (.cond (.t 11) (.seq (.reg [o 4 (.mv (.c (.int .i64 (-1))))])
   (.ret)) (.skip)))
  (.seq (.seq (.reg [o 5 (.mv (.c (.int .i64 0)))])
  (.block 0 (.loop (.seq (.seq (.reg [o 12 (.mv (.t 5)), o 13 (.mv (.t 0)), o 14 (.lenL (.t 13)), o 15 (.bin .lss (.t 12) (.t 14))])
    (.cond (.t 15) (.skip) (.exit 0)))
    (.seq (.block 1 (.seq (.reg [o 18 (.mv (.t 0)), o 19 (.mv (.t 5)), o 20 (.iaddr 4 (.t 18) (.t 19)), o 21 (.load (some 4) (.t 20)), o 22 (.mv (.t 1)), o 23 (.call 81 [(.t 21), (.t 22)]), o 1 (.mv (.t 23))])
     (.seq (.reg [o 24 (.mv (.t 1)), o 25 (.bin .lss (.t 24) (.c (.int .i64 0)))])
     (.cond (.t 25) (.seq (.reg [o 4 (.mv (.c (.int .i64 (-1))))])
      (.ret)) (.skip)))))
    (.reg [o 16 (.mv (.t 5)), o 17 (.bin .add (.t 16) (.c (.int .i64 1))), o 5 (.mv (.t 17))]))))))
  (.seq (.reg [o 26 (.mv (.t 1)), o 4 (.mv (.t 26))])
  (.ret))))),
  [.tmp 4]⟩
/- loop.example/g03011/laws.szJobS -/
def F51 : Fun := ⟨27,
  .seq (.reg [o 4 (.mv (.c (.int .i64 0)))])
  (.seq (.reg [o 6 (.mv (.t 1)), o 7 (.mv (.t 0)), o 8 (.lenL (.t 7)), o 9 (.bin .sub (.t 6) (.t 8)), o 1 (.mv (.t 9))])
  (.seq (.seq (.reg [o 10 (.mv (.t 1)), o 11 (.bin .lss (.t 10) (.c (.int .i64 0)))])
  (.cond (.t 11) (.seq (.reg [o 4 (.mv (.c (.int .i64 (-1))))])
   (.ret)) (.skip)))
  (.seq (.seq (.reg [o 5 (.mv (.c (.int .i64 0)))])
  (.block 0 (.loop (.seq (.seq (.reg [o 12 (.mv (.t 5)), o 13 (.mv (.t 0)), o 14 (.lenL (.t 13)), o 15 (.bin .lss (.t 12) (.t 14))])
    (.cond (.t 15) (.skip) (.exit 0)))
    (.seq (.block 1 (.seq (.reg [o 18 (.mv (.t 0)), o 19 (.mv (.t 5)), o 20 (.iaddr 5 (.t 18) (.t 19)), o 21 (.load (some 5) (.t 20)), o 22 (.mv (.t 1)), o 23 (.call 82 [(.t 21), (.t 22)]), o 1 (.mv (.t 23))])
     (.seq (.reg [o 24 (.mv (.t 1)), o 25 (.bin .lss (.t 24) (.c (.int .i64 0)))])
     (.cond (.t 25) (.seq (.reg [o 4 (.mv (.c (.int .i64 (-1))))])
      (.ret)) (.skip)))))
    (.reg [o 16 (.mv (.t 5)), o 17 (.bin .add (.t 16) (.c (.int .i64 1))), o 5 (.mv (.t 17))]))))))
  (.seq (.reg [o 26 (.mv (.t 1)), o 4 (.mv (.t 26))])
  (.ret))))),
  [.tmp 4]⟩
/- loop.example/g03011/laws.szWorkerS -/
def F52 : Fun := ⟨27,
  .seq (.reg [o 4 (.mv (.c (.int .i64 0)))])
  (.seq (.reg [o 6 (.mv (.t 1)), o 7 (.mv (.t 0)), o 8 (.lenL (.t 7)), o 9 (.bin .sub (.t 6) (.t 8)), o 1 (.mv (.t 9))])
  (.seq (.seq (.reg [o 10 (.mv (.t 1)), o 11 (.bin .lss (.t 10) (.c (.int .i64 0)))])
  (.cond (.t 11) (.seq (.reg [o 4 (.mv (.c (.int .i64 (-1))))])
   (.ret)) (.skip)))
  (.seq (.seq (.reg [o 5 (.mv (.c (.int .i64 0)))])
  (.block 0 (.loop (.seq (.seq (.reg [o 12 (.mv (.t 5)), o 13 (.mv (.t 0)), o 14 (.lenL (.t 13)), o 15 (.bin .lss (.t 12) (.t 14))])
    (.cond (.t 15) (.skip) (.exit 0)))
    (.seq (.block 1 (.seq (.reg [o 18 (.mv (.t 0)), o 19 (.mv (.t 5)), o 20 (.iaddr 9 (.t 18) (.t 19)), o 21 (.load (some 9) (.t 20)), o 22 (.mv (.t 1)), o 23 (.call 83 [(.t 21), (.t 22)]), o 1 (.mv (.t 23))])
     (.seq (.reg [o 24 (.mv (.t 1)), o 25 (.bin .lss (.t 24) (.c (.int .i64 0)))])
     (.cond (.t 25) (.seq (.reg [o 4 (.mv (.c (.int .i64 (-1))))])
      (.ret)) (.skip)))))
    (.reg [o 16 (.mv (.t 5)), o 17 (.bin .add (.t 16) (.c (.int .i64 1))), o 5 (.mv (.t 17))]))))))
  (.seq (.reg [o 26 (.mv (.t 1)), o 4 (.mv (.t 26))])
  (.ret))))),
  [.tmp 4]⟩
/- loop.example/g03011/laws.szAnswerS -/
def F53 : Fun := ⟨27,
  .seq (.reg [o 4 (.mv (.c (.int .i64 0)))])
  (.seq (.reg [o 6 (.mv (.t 1)), o 7 (.mv (.t 0)), o 8 (.lenL (.t 7)), o 9 (.bin .sub (.t 6) (.t 8)), o 1 (.mv (.t 9))])
  (.seq (.seq (.reg [o 10 (.mv (.t 1)), o 11 (.bin .lss (.t 10) (.c (.int .i64 0)))])
  (.cond (.t 11) (.seq (.reg [o 4 (.mv (.c (.int .i64 (-1))))])
   (.ret)) (.skip)))
  (.seq (.seq (.reg [o 5 (.mv (.c (.int .i64 0)))])
  (.block 0 (.loop (.seq (.seq (.reg [o 12 (.mv (.t 5)), o 13 (.mv (.t 0)), o 14 (.lenL (.t 13)), o 15 (.bin .lss (.t 12) (.t 14))])
    (.cond (.t 15) (.skip) (.exit 0)))
    (.seq (.block 1 (.seq (.reg [o 18 (.mv (.t 0)), o 19 (.mv (.t 5)), o 20 (.iaddr 11 (.t 18) (.t 19)), o 21 (.load (some 11) (.t 20)), o 22 (.mv (.t 1)), o 23 (.call 84 [(.t 21), (.t 22)]), o 1 (.mv (.t 23))])
     (.seq (.reg [o 24 (.mv (.t 1)), o 25 (.bin .lss (.t 24) (.c (.int .i64 0)))])
     (.cond (.t 25) (.seq (.reg [o 4 (.mv (.c (.int .i64 (-1))))])
      (.ret)) (.skip)))))
    (.reg [o 16 (.mv (.t 5)), o 17 (.bin .add (.t 16) (.c (.int .i64 1))), o 5 (.mv (.t 17))]))))))
  (.seq (.reg [o 26 (.mv (.t 1)), o 4 (.mv (.t 26))])
  (.ret))))),
  [.tmp 4]⟩
/- loop.example/g03011/laws.toFileS -/
def F54 : Fun := ⟨23,
  .seq (.reg [o 2 (.mv (.c .nsl))])
  (.seq (.reg [o 5 (.mv (.t 0)), o 6 (.lenL (.t 5)), o 7 (.mkslice 3 [(.str []), (.str []), (.int .i64 0)] 40 (.t 6) (.t 6)), o 3 (.mv (.t 7))])
  (.seq (.seq (.reg [o 4 (.mv (.c (.int .i64 0)))])
  (.block 0 (.loop (.seq (.seq (.reg [o 8 (.mv (.t 4)), o 9 (.mv (.t 0)), o 10 (.lenL (.t 9)), o 11 (.bin .lss (.t 8) (.t 10))])
    (.cond (.t 11) (.skip) (.exit 0)))
    (.seq (.block 1 (.reg [o 14 (.mv (.t 3)), o 15 (.mv (.t 4)), o 16 (.mv (.t 0)), o 17 (.mv (.t 4)), o 18 (.iaddr 3 (.t 16) (.t 17)), o 19 (.load (some 3) (.t 18)), o 20 (.call 85 [(.t 19)]), o 21 (.iaddr 3 (.t 14) (.t 15)), st (.store 3 (.t 21) (.t 20))]))
    (.reg [o 12 (.mv (.t 4)), o 13 (.bin .add (.t 12) (.c (.int .i64 1))), o 4 (.mv (.t 13))]))))))
  (.seq (.reg [o 22 (.mv (.t 3)), o 2 (.mv (.t 22))])
  (.ret)))),
  [.tmp 2]⟩
/- loop.example/g03011/laws.toSessionS -/
def F55 : Fun := ⟨23,
  .seq (.reg [o 2 (.mv (.c .nsl))])
  (.seq (.reg [o 5 (.mv (.t 0)), o 6 (.lenL (.t 5)), o 7 (.mkslice 4 [(.str []), (.str []), (.int .i64 0), (.int .i64 0)] 48 (.t 6) (.t 6)), o 3 (.mv (.t 7))])
  (.seq (.seq (.reg [o 4 (.mv (.c (.int .i64 0)))])
  (.block 0 (.loop (.seq (.seq (.reg [o 8 (.mv (.t 4)), o 9 (.mv (.t 0)), o 10 (.lenL (.t 9)), o 11 (.bin .lss (.t 8) (.t 10))])
    (.cond (.t 11) (.skip) (.exit 0)))
    (.seq (.block 1 (.reg [o 14 (.mv (.t 3)), o 15 (.mv (.t 4)), o 16 (.mv (.t 0)), o 17 (.mv (.t 4)), o 18 (.iaddr 4 (.t 16) (.t 17)), o 19 (.load (some 4) (.t 18)), o 20 (.call 86 [(.t 19)]), o 21 (.iaddr 4 (.t 14) (.t 15)), st (.store 4 (.t 21) (.t 20))]))
    (.reg [o 12 (.mv (.t 4)), o 13 (.bin .add (.t 12) (.c (.int .i64 1))), o 4 (.mv (.t 13))]))))))
  (.seq (.reg [o 22 (.mv (.t 3)), o 2 (.mv (.t 22))])
  (.ret)))),
  [.tmp 2]⟩
/- loop.example/g03011/laws.toJobS -/
def F56 : Fun := ⟨23,
  .seq (.reg [o 2 (.mv (.c .nsl))])
  (.seq (.reg [o 5 (.mv (.t 0)), o 6 (.lenL (.t 5)), o 7 (.mkslice 5 [(.int .i64 0), (.str []), .nsl, .nsl, (.str [])] 88 (.t 6) (.t 6)), o 3 (.mv (.t 7))])
  (.seq (.seq (.reg [o 4 (.mv (.c (.int .i64 0)))])
  (.block 0 (.loop (.seq (.seq (.reg [o 8 (.mv (.t 4)), o 9 (.mv (.t 0)), o 10 (.lenL (.t 9)), o 11 (.bin .lss (.t 8) (.t 10))])
    (.cond (.t 11) (.skip) (.exit 0)))
    (.seq (.block 1 (.reg [o 14 (.mv (.t 3)), o 15 (.mv (.t 4)), o 16 (.mv (.t 0)), o 17 (.mv (.t 4)), o 18 (.iaddr 5 (.t 16) (.t 17)), o 19 (.load (some 5) (.t 18)), o 20 (.call 87 [(.t 19)]), o 21 (.iaddr 5 (.t 14) (.t 15)), st (.store 5 (.t 21) (.t 20))]))
    (.reg [o 12 (.mv (.t 4)), o 13 (.bin .add (.t 12) (.c (.int .i64 1))), o 4 (.mv (.t 13))]))))))
  (.seq (.reg [o 22 (.mv (.t 3)), o 2 (.mv (.t 22))])
  (.ret)))),
  [.tmp 2]⟩
/- loop.example/g03011/laws.toWorkerS -/
def F57 : Fun := ⟨23,
  .seq (.reg [o 2 (.mv (.c .nsl))])
  (.seq (.reg [o 5 (.mv (.t 0)), o 6 (.lenL (.t 5)), o 7 (.mkslice 9 [(.int .i64 0), (.int .i64 0), (.str []), .nsl, .nsl, (.str []), (.str []), .nsl, (.int .i64 0)] 144 (.t 6) (.t 6)), o 3 (.mv (.t 7))])
  (.seq (.seq (.reg [o 4 (.mv (.c (.int .i64 0)))])
  (.block 0 (.loop (.seq (.seq (.reg [o 8 (.mv (.t 4)), o 9 (.mv (.t 0)), o 10 (.lenL (.t 9)), o 11 (.bin .lss (.t 8) (.t 10))])
    (.cond (.t 11) (.skip) (.exit 0)))
    (.seq (.block 1 (.reg [o 14 (.mv (.t 3)), o 15 (.mv (.t 4)), o 16 (.mv (.t 0)), o 17 (.mv (.t 4)), o 18 (.iaddr 9 (.t 16) (.t 17)), o 19 (.load (some 9) (.t 18)), o 20 (.call 88 [(.t 19)]), o 21 (.iaddr 9 (.t 14) (.t 15)), st (.store 9 (.t 21) (.t 20))]))
    (.reg [o 12 (.mv (.t 4)), o 13 (.bin .add (.t 12) (.c (.int .i64 1))), o 4 (.mv (.t 13))]))))))
  (.seq (.reg [o 22 (.mv (.t 3)), o 2 (.mv (.t 22))])
  (.ret)))),
  [.tmp 2]⟩
/- loop.example/g03011/laws.toAnswerS -/
def F58 : Fun := ⟨23,
  .seq (.reg [o 2 (.mv (.c .nsl))])
  (.seq (.reg [o 5 (.mv (.t 0)), o 6 (.lenL (.t 5)), o 7 (.mkslice 11 [(.int .i64 0), (.str []), .nsl, (.str []), .nsl, .nsl, (.str []), (.int .i64 0), .nsl, (.str []), (.str [])] 192 (.t 6) (.t 6)), o 3 (.mv (.t 7))])
  (.seq (.seq (.reg [o 4 (.mv (.c (.int .i64 0)))])
  (.block 0 (.loop (.seq (.seq (.reg [o 8 (.mv (.t 4)), o 9 (.mv (.t 0)), o 10 (.lenL (.t 9)), o 11 (.bin .lss (.t 8) (.t 10))])
    (.cond (.t 11) (.skip) (.exit 0)))
    (.seq (.block 1 (.reg [o 14 (.mv (.t 3)), o 15 (.mv (.t 4)), o 16 (.mv (.t 0)), o 17 (.mv (.t 4)), o 18 (.iaddr 11 (.t 16) (.t 17)), o 19 (.load (some 11) (.t 18)), o 20 (.call 89 [(.t 19)]), o 21 (.iaddr 11 (.t 14) (.t 15)), st (.store 11 (.t 21) (.t 20))]))
    (.reg [o 12 (.mv (.t 4)), o 13 (.bin .add (.t 12) (.c (.int .i64 1))), o 4 (.mv (.t 13))]))))))
  (.seq (.reg [o 22 (.mv (.t 3)), o 2 (.mv (.t 22))])
  (.ret)))),
  [.tmp 2]⟩
/- loop.example/g03011/impl.boolNum -/
def F59 : Fun := ⟨4,
  .seq (.reg [o 2 (.mv (.c (.int .i64 0)))])
  (.seq (.seq (.reg [o 3 (.mv (.t 0))])
  (.cond (.t 3) (.seq (.reg [o 2 (.mv (.c (.int .i64 1)))])
   (.ret)) (.skip)))
  (.seq (.reg [o 2 (.mv (.c (.int .i64 0)))])
  (.ret))),
  [.tmp 2]⟩
/- loop.example/g03011/laws.eqFileS -/
def F60 : Fun := ⟨27,
  .seq (.reg [o 4 (.mv (.c (.bool false)))])
  (.seq (.seq (.reg [o 6 (.mv (.t 0)), o 7 (.lenL (.t 6)), o 8 (.mv (.t 1)), o 9 (.lenL (.t 8)), o 10 (.bin .neq (.t 7) (.t 9))])
  (.cond (.t 10) (.seq (.reg [o 4 (.mv (.c (.bool false)))])
   (.ret)) (.skip)))
  (.seq (.seq (.reg [o 5 (.mv (.c (.int .i64 0)))])
  (.block 0 (.loop (.seq (.seq (.reg [o 11 (.mv (.t 5)), o 12 (.mv (.t 0)), o 13 (.lenL (.t 12)), o 14 (.bin .lss (.t 11) (.t 13))])
    (.cond (.t 14) (.skip) (.exit 0)))
    (.seq (.block 1 (.seq (.reg [o 17 (.mv (.t 0)), o 18 (.mv (.t 5)), o 19 (.iaddr 3 (.t 17) (.t 18)), o 20 (.load (some 3) (.t 19)), o 21 (.mv (.t 1)), o 22 (.mv (.t 5)), o 23 (.iaddr 3 (.t 21) (.t 22)), o 24 (.load (some 3) (.t 23)), o 25 (.callF 90 [(.t 20), (.t 24)]), o 26 (.un .not (.t 25))])
     (.cond (.t 26) (.seq (.reg [o 4 (.mv (.c (.bool false)))])
      (.ret)) (.skip))))
    (.reg [o 15 (.mv (.t 5)), o 16 (.bin .add (.t 15) (.c (.int .i64 1))), o 5 (.mv (.t 16))]))))))
  (.seq (.reg [o 4 (.mv (.c (.bool true)))])
  (.ret)))),
  [.tmp 4]⟩
/- loop.example/g03011/laws.eqSessionS -/
def F61 : Fun := ⟨27,
  .seq (.reg [o 4 (.mv (.c (.bool false)))])
  (.seq (.seq (.reg [o 6 (.mv (.t 0)), o 7 (.lenL (.t 6)), o 8 (.mv (.t 1)), o 9 (.lenL (.t 8)), o 10 (.bin .neq (.t 7) (.t 9))])
  (.cond (.t 10) (.seq (.reg [o 4 (.mv (.c (.bool false)))])
   (.ret)) (.skip)))
  (.seq (.seq (.reg [o 5 (.mv (.c (.int .i64 0)))])
  (.block 0 (.loop (.seq (.seq (.reg [o 11 (.mv (.t 5)), o 12 (.mv (.t 0)), o 13 (.lenL (.t 12)), o 14 (.bin .lss (.t 11) (.t 13))])
    (.cond (.t 14) (.skip) (.exit 0)))
    (.seq (.block 1 (.seq (.reg [o 17 (.mv (.t 0)), o 18 (.mv (.t 5)), o 19 (.iaddr 4 (.t 17) (.t 18)), o 20 (.load (some 4) (.t 19)), o 21 (.mv (.t 1)), o 22 (.mv (.t 5)), o 23 (.iaddr 4 (.t 21) (.t 22)), o 24 (.load (some 4) (.t 23)), o 25 (.callF 91 [(.t 20), (.t 24)]), o 26 (.un .not (.t 25))])
     (.cond (.t 26) (.seq (.reg [o 4 (.mv (.c (.bool false)))])
      (.ret)) (.skip))))
    (.reg [o 15 (.mv (.t 5)), o 16 (.bin .add (.t 15) (.c (.int .i64 1))), o 5 (.mv (.t 16))]))))))
  (.seq (.reg [o 4 (.mv (.c (.bool true)))])
  (.ret)))),
  [.tmp 4]⟩
/- loop.example/g03011/laws.eqJobS -/
def F62 : Fun := ⟨27,
  .seq (.reg [o 4 (.mv (.c (.bool false)))])
  (.seq (.seq (.reg [o 6 (.mv (.t 0)), o 7 (.lenL (.t 6)), o 8 (.mv (.t 1)), o 9 (.lenL (.t 8)), o 10 (.bin .neq (.t 7) (.t 9))])
  (.cond (.t 10) (.seq (.reg [o 4 (.mv (.c (.bool false)))])
   (.ret)) (.skip)))
  (.seq (.seq (.reg [o 5 (.mv (.c (.int .i64 0)))])
  (.block 0 (.loop (.seq (.seq (.reg [o 11 (.mv (.t 5)), o 12 (.mv (.t 0)), o 13 (.lenL (.t 12)), o 14 (.bin .lss (.t 11) (.t 13))])
    (.cond (.t 14) (.skip) (.exit 0)))
    (.seq (.block 1 (.seq (.reg [o 17 (.mv (.t 0)), o 18 (.mv (.t 5)), o 19 (.iaddr 5 (.t 17) (.t 18)), o 20 (.load (some 5) (.t 19)), o 21 (.mv (.t 1)), o 22 (.mv (.t 5)), o 23 (.iaddr 5 (.t 21) (.t 22)), o 24 (.load (some 5) (.t 23)), o 25 (.callF 92 [(.t 20), (.t 24)]), o 26 (.un .not (.t 25))])
     (.cond (.t 26) (.seq (.reg [o 4 (.mv (.c (.bool false)))])
      (.ret)) (.skip))))
    (.reg [o 15 (.mv (.t 5)), o 16 (.bin .add (.t 15) (.c (.int .i64 1))), o 5 (.mv (.t 16))]))))))
  (.seq (.reg [o 4 (.mv (.c (.bool true)))])
  (.ret)))),
  [.tmp 4]⟩
/- loop.example/g03011/laws.eqWorkerS -/
def F63 : Fun := ⟨27,
  .seq (.reg [o 4 (.mv (.c (.bool false)))])
  (.seq (.seq (.reg [o 6 (.mv (.t 0)), o 7 (.lenL (.t 6)), o 8 (.mv (.t 1)), o 9 (.lenL (.t 8)), o 10 (.bin .neq (.t 7) (.t 9))])
  (.cond (.t 10) (.seq (.reg [o 4 (.mv (.c (.bool false)))])
   (.ret)) (.skip)))
  (.seq (.seq (.reg [o 5 (.mv (.c (.int .i64 0)))])
  (.block 0 (.loop (.seq (.seq (.reg [o 11 (.mv (.t 5)), o 12 (.mv (.t 0)), o 13 (.lenL (.t 12)), o 14 (.bin .lss (.t 11) (.t 13))])
    (.cond (.t 14) (.skip) (.exit 0)))
    (.seq (.block 1 (.seq (.reg [o 17 (.mv (.t 0)), o 18 (.mv (.t 5)), o 19 (.iaddr 9 (.t 17) (.t 18)), o 20 (.load (some 9) (.t 19)), o 21 (.mv (.t 1)), o 22 (.mv (.t 5)), o 23 (.iaddr 9 (.t 21) (.t 22)), o 24 (.load (some 9) (.t 23)), o 25 (.callF 93 [(.t 20), (.t 24)]), o 26 (.un .not (.t 25))])
     (.cond (.t 26) (.seq (.reg [o 4 (.mv (.c (.bool false)))])
      (.ret)) (.skip))))
    (.reg [o 15 (.mv (.t 5)), o 16 (.bin .add (.t 15) (.c (.int .i64 1))), o 5 (.mv (.t 16))]))))))
  (.seq (.reg [o 4 (.mv (.c (.bool true)))])
  (.ret)))),
  [.tmp 4]⟩
/- loop.example/g03011/laws.eqAnswerS -/
def F64 : Fun := ⟨27,
  .seq (.reg [o 4 (.mv (.c (.bool false)))])
  (.seq (.seq (.reg [o 6 (.mv (.t 0)), o 7 (.lenL (.t 6)), o 8 (.mv (.t 1)), o 9 (.lenL (.t 8)), o 10 (.bin .neq (.t 7) (.t 9))])
  (.cond (.t 10) (.seq (.reg [o 4 (.mv (.c (.bool false)))])
   (.ret)) (.skip)))
  (.seq (.seq (.reg [o 5 (.mv (.c (.int .i64 0)))])
  (.block 0 (.loop (.seq (.seq (.reg [o 11 (.mv (.t 5)), o 12 (.mv (.t 0)), o 13 (.lenL (.t 12)), o 14 (.bin .lss (.t 11) (.t 13))])
    (.cond (.t 14) (.skip) (.exit 0)))
    (.seq (.block 1 (.seq (.reg [o 17 (.mv (.t 0)), o 18 (.mv (.t 5)), o 19 (.iaddr 11 (.t 17) (.t 18)), o 20 (.load (some 11) (.t 19)), o 21 (.mv (.t 1)), o 22 (.mv (.t 5)), o 23 (.iaddr 11 (.t 21) (.t 22)), o 24 (.load (some 11) (.t 23)), o 25 (.callF 94 [(.t 20), (.t 24)]), o 26 (.un .not (.t 25))])
     (.cond (.t 26) (.seq (.reg [o 4 (.mv (.c (.bool false)))])
      (.ret)) (.skip))))
    (.reg [o 15 (.mv (.t 5)), o 16 (.bin .add (.t 15) (.c (.int .i64 1))), o 5 (.mv (.t 16))]))))))
  (.seq (.reg [o 4 (.mv (.c (.bool true)))])
  (.ret)))),
  [.tmp 4]⟩
/- loop.example/g03011/spec.Min -/
def F65 : Fun := ⟨10,
  .seq (.reg [o 4 (.mv (.c (.int .i64 0)))])
  (.seq (.seq (.reg [o 5 (.mv (.t 1)), o 6 (.mv (.t 0)), o 7 (.bin .lss (.t 5) (.t 6))])
  (.cond (.t 7) (.seq (.reg [o 8 (.mv (.t 1)), o 4 (.mv (.t 8))])
   (.ret)) (.skip)))
  (.seq (.reg [o 9 (.mv (.t 0)), o 4 (.mv (.t 9))])
  (.ret))),
  [.tmp 4]⟩
/- loop.example/g03011/impl.Min -/
def F66 : Fun := ⟨10,
  .seq (.reg [o 4 (.mv (.c (.int .i64 0)))])
  (.seq (.seq (.reg [o 5 (.mv (.t 1)), o 6 (.mv (.t 0)), o 7 (.bin .lss (.t 5) (.t 6))])
  (.cond (.t 7) (.seq (.reg [o 8 (.mv (.t 1)), o 4 (.mv (.t 8))])
   (.ret)) (.skip)))
  (.seq (.reg [o 9 (.mv (.t 0)), o 4 (.mv (.t 9))])
  (.ret))),
  [.tmp 4]⟩
/- loop.example/g03011/laws.markFileS -/
def F67 : Fun := ⟨36,
  .seq (.reg [o 4 (.mv (.c (.int .i64 0)))])
  (.seq (.seq (.reg [o 5 (.mv (.c (.int .i64 0)))])
  (.block 0 (.loop (.seq (.seq (.reg [o 6 (.mv (.t 5)), o 7 (.mv (.t 0)), o 8 (.lenL (.t 7)), o 9 (.bin .lss (.t 6) (.t 8))])
    (.cond (.t 9) (.skip) (.exit 0)))
    (.seq (.block 1 (.seq (.reg [o 12 (.mv (.t 0)), o 13 (.mv (.t 5)), o 14 (.mv (.t 1)), o 15 (.call 95 [(.t 14)]), o 16 (.iaddr 3 (.t 12) (.t 13)), o 17 (.faddr 0 (.t 16)), st (.store 1 (.t 17) (.t 15))])
     (.seq (.reg [o 18 (.mv (.t 1)), o 19 (.bin .add (.t 18) (.c (.int .i64 1))), o 1 (.mv (.t 19))])
     (.seq (.reg [o 20 (.mv (.t 0)), o 21 (.mv (.t 5)), o 22 (.mv (.t 1)), o 23 (.call 95 [(.t 22)]), o 24 (.iaddr 3 (.t 20) (.t 21)), o 25 (.faddr 1 (.t 24)), st (.store 1 (.t 25) (.t 23))])
     (.seq (.reg [o 26 (.mv (.t 1)), o 27 (.bin .add (.t 26) (.c (.int .i64 1))), o 1 (.mv (.t 27))])
     (.seq (.reg [o 28 (.mv (.t 0)), o 29 (.mv (.t 5)), o 30 (.mv (.t 1)), o 31 (.iaddr 3 (.t 28) (.t 29)), o 32 (.faddr 2 (.t 31)), st (.store 1 (.t 32) (.t 30))])
     (.reg [o 33 (.mv (.t 1)), o 34 (.bin .add (.t 33) (.c (.int .i64 1))), o 1 (.mv (.t 34))])))))))
    (.reg [o 10 (.mv (.t 5)), o 11 (.bin .add (.t 10) (.c (.int .i64 1))), o 5 (.mv (.t 11))]))))))
  (.seq (.reg [o 35 (.mv (.t 1)), o 4 (.mv (.t 35))])
  (.ret))),
  [.tmp 4]⟩
/- loop.example/g03011/laws.markSessionS -/
def F68 : Fun := ⟨43,
  .seq (.reg [o 4 (.mv (.c (.int .i64 0)))])
  (.seq (.seq (.reg [o 5 (.mv (.c (.int .i64 0)))])
  (.block 0 (.loop (.seq (.seq (.reg [o 6 (.mv (.t 5)), o 7 (.mv (.t 0)), o 8 (.lenL (.t 7)), o 9 (.bin .lss (.t 6) (.t 8))])
    (.cond (.t 9) (.skip) (.exit 0)))
    (.seq (.block 1 (.seq (.reg [o 12 (.mv (.t 0)), o 13 (.mv (.t 5)), o 14 (.mv (.t 1)), o 15 (.call 95 [(.t 14)]), o 16 (.iaddr 4 (.t 12) (.t 13)), o 17 (.faddr 0 (.t 16)), st (.store 1 (.t 17) (.t 15))])
     (.seq (.reg [o 18 (.mv (.t 1)), o 19 (.bin .add (.t 18) (.c (.int .i64 1))), o 1 (.mv (.t 19))])
     (.seq (.reg [o 20 (.mv (.t 0)), o 21 (.mv (.t 5)), o 22 (.mv (.t 1)), o 23 (.call 95 [(.t 22)]), o 24 (.iaddr 4 (.t 20) (.t 21)), o 25 (.faddr 1 (.t 24)), st (.store 1 (.t 25) (.t 23))])
     (.seq (.reg [o 26 (.mv (.t 1)), o 27 (.bin .add (.t 26) (.c (.int .i64 1))), o 1 (.mv (.t 27))])
     (.seq (.reg [o 28 (.mv (.t 0)), o 29 (.mv (.t 5)), o 30 (.mv (.t 1)), o 31 (.iaddr 4 (.t 28) (.t 29)), o 32 (.faddr 2 (.t 31)), st (.store 1 (.t 32) (.t 30))])
     (.seq (.reg [o 33 (.mv (.t 1)), o 34 (.bin .add (.t 33) (.c (.int .i64 1))), o 1 (.mv (.t 34))])
     (.seq (.reg [o 35 (.mv (.t 0)), o 36 (.mv (.t 5)), o 37 (.mv (.t 1)), o 38 (.iaddr 4 (.t 35) (.t 36)), o 39 (.faddr 3 (.t 38)), st (.store 1 (.t 39) (.t 37))])
     (.reg [o 40 (.mv (.t 1)), o 41 (.bin .add (.t 40) (.c (.int .i64 1))), o 1 (.mv (.t 41))])))))))))
    (.reg [o 10 (.mv (.t 5)), o 11 (.bin .add (.t 10) (.c (.int .i64 1))), o 5 (.mv (.t 11))]))))))
  (.seq (.reg [o 42 (.mv (.t 1)), o 4 (.mv (.t 42))])
  (.ret))),
  [.tmp 4]⟩
/- loop.example/g03011/laws.markJobS -/
def F69 : Fun := ⟨53,
  .seq (.reg [o 4 (.mv (.c (.int .i64 0)))])
  (.seq (.seq (.reg [o 5 (.mv (.c (.int .i64 0)))])
  (.block 0 (.loop (.seq (.seq (.reg [o 6 (.mv (.t 5)), o 7 (.mv (.t 0)), o 8 (.lenL (.t 7)), o 9 (.bin .lss (.t 6) (.t 8))])
    (.cond (.t 9) (.skip) (.exit 0)))
    (.seq (.block 1 (.seq (.reg [o 12 (.mv (.t 0)), o 13 (.mv (.t 5)), o 14 (.mv (.t 1)), o 15 (.iaddr 5 (.t 12) (.t 13)), o 16 (.faddr 0 (.t 15)), st (.store 1 (.t 16) (.t 14))])
     (.seq (.reg [o 17 (.mv (.t 1)), o 18 (.bin .add (.t 17) (.c (.int .i64 1))), o 1 (.mv (.t 18))])
     (.seq (.reg [o 19 (.mv (.t 0)), o 20 (.mv (.t 5)), o 21 (.mv (.t 1)), o 22 (.call 95 [(.t 21)]), o 23 (.iaddr 5 (.t 19) (.t 20)), o 24 (.faddr 1 (.t 23)), o 25 (.faddr 0 (.t 24)), st (.store 1 (.t 25) (.t 22))])
     (.seq (.reg [o 26 (.mv (.t 1)), o 27 (.bin .add (.t 26) (.c (.int .i64 1))), o 1 (.mv (.t 27))])
     (.seq (.reg [o 28 (.mv (.t 0)), o 29 (.mv (.t 5)), o 30 (.iaddr 5 (.t 28) (.t 29)), o 31 (.faddr 1 (.t 30)), o 32 (.faddr 1 (.t 31)), o 33 (.load none (.t 32)), o 34 (.mv (.t 1)), o 35 (.call 96 [(.t 33), (.t 34)]), o 1 (.mv (.t 35))])
     (.seq (.reg [o 36 (.mv (.t 0)), o 37 (.mv (.t 5)), o 38 (.iaddr 5 (.t 36) (.t 37)), o 39 (.faddr 1 (.t 38)), o 40 (.faddr 2 (.t 39)), o 41 (.load none (.t 40)), o 42 (.mv (.t 1)), o 43 (.call 96 [(.t 41), (.t 42)]), o 1 (.mv (.t 43))])
     (.seq (.reg [o 44 (.mv (.t 0)), o 45 (.mv (.t 5)), o 46 (.mv (.t 1)), o 47 (.call 95 [(.t 46)]), o 48 (.iaddr 5 (.t 44) (.t 45)), o 49 (.faddr 4 (.t 48)), st (.store 1 (.t 49) (.t 47))])
     (.reg [o 50 (.mv (.t 1)), o 51 (.bin .add (.t 50) (.c (.int .i64 1))), o 1 (.mv (.t 51))])))))))))
    (.reg [o 10 (.mv (.t 5)), o 11 (.bin .add (.t 10) (.c (.int .i64 1))), o 5 (.mv (.t 11))]))))))
  (.seq (.reg [o 52 (.mv (.t 1)), o 4 (.mv (.t 52))])
  (.ret))),
  [.tmp 4]⟩
/- loop.example/g03011/laws.markWorkerS -/
def F70 : Fun := ⟨87,
  .seq (.reg [o 4 (.mv (.c (.int .i64 0)))])
  (.seq (.seq (.reg [o 5 (.mv (.c (.int .i64 0)))])
  (.block 0 (.loop (.seq (.seq (.reg [o 6 (.mv (.t 5)), o 7 (.mv (.t 0)), o 8 (.lenL (.t 7)), o 9 (.bin .lss (.t 6) (.t 8))])
    (.cond (.t 9) (.skip) (.exit 0)))
    (.seq (.block 1 (.seq (.reg [o 12 (.mv (.t 0)), o 13 (.mv (.t 5)), o 14 (.mv (.t 1)), o 15 (.iaddr 9 (.t 12) (.t 13)), o 16 (.faddr 0 (.t 15)), st (.store 1 (.t 16) (.t 14))])
     (.seq (.reg [o 17 (.mv (.t 1)), o 18 (.bin .add (.t 17) (.c (.int .i64 1))), o 1 (.mv (.t 18))])
     (.seq (.reg [o 19 (.mv (.t 0)), o 20 (.mv (.t 5)), o 21 (.mv (.t 1)), o 22 (.iaddr 9 (.t 19) (.t 20)), o 23 (.faddr 1 (.t 22)), o 24 (.faddr 0 (.t 23)), st (.store 1 (.t 24) (.t 21))])
     (.seq (.reg [o 25 (.mv (.t 1)), o 26 (.bin .add (.t 25) (.c (.int .i64 1))), o 1 (.mv (.t 26))])
     (.seq (.reg [o 27 (.mv (.t 0)), o 28 (.mv (.t 5)), o 29 (.mv (.t 1)), o 30 (.call 95 [(.t 29)]), o 31 (.iaddr 9 (.t 27) (.t 28)), o 32 (.faddr 1 (.t 31)), o 33 (.faddr 1 (.t 32)), o 34 (.faddr 0 (.t 33)), st (.store 1 (.t 34) (.t 30))])
     (.seq (.reg [o 35 (.mv (.t 1)), o 36 (.bin .add (.t 35) (.c (.int .i64 1))), o 1 (.mv (.t 36))])
     (.seq (.reg [o 37 (.mv (.t 0)), o 38 (.mv (.t 5)), o 39 (.iaddr 9 (.t 37) (.t 38)), o 40 (.faddr 1 (.t 39)), o 41 (.faddr 1 (.t 40)), o 42 (.faddr 1 (.t 41)), o 43 (.load none (.t 42)), o 44 (.mv (.t 1)), o 45 (.call 96 [(.t 43), (.t 44)]), o 1 (.mv (.t 45))])
     (.seq (.reg [o 46 (.mv (.t 0)), o 47 (.mv (.t 5)), o 48 (.iaddr 9 (.t 46) (.t 47)), o 49 (.faddr 1 (.t 48)), o 50 (.faddr 1 (.t 49)), o 51 (.faddr 2 (.t 50)), o 52 (.load none (.t 51)), o 53 (.mv (.t 1)), o 54 (.call 96 [(.t 52), (.t 53)]), o 1 (.mv (.t 54))])
     (.seq (.reg [o 55 (.mv (.t 0)), o 56 (.mv (.t 5)), o 57 (.mv (.t 1)), o 58 (.call 95 [(.t 57)]), o 59 (.iaddr 9 (.t 55) (.t 56)), o 60 (.faddr 1 (.t 59)), o 61 (.faddr 4 (.t 60)), st (.store 1 (.t 61) (.t 58))])
     (.seq (.reg [o 62 (.mv (.t 1)), o 63 (.bin .add (.t 62) (.c (.int .i64 1))), o 1 (.mv (.t 63))])
     (.seq (.reg [o 64 (.mv (.t 0)), o 65 (.mv (.t 5)), o 66 (.mv (.t 1)), o 67 (.call 95 [(.t 66)]), o 68 (.iaddr 9 (.t 64) (.t 65)), o 69 (.faddr 6 (.t 68)), st (.store 1 (.t 69) (.t 67))])
     (.seq (.reg [o 70 (.mv (.t 1)), o 71 (.bin .add (.t 70) (.c (.int .i64 1))), o 1 (.mv (.t 71))])
     (.seq (.reg [o 72 (.mv (.t 0)), o 73 (.mv (.t 5)), o 74 (.iaddr 9 (.t 72) (.t 73)), o 75 (.faddr 7 (.t 74)), o 76 (.load none (.t 75)), o 77 (.mv (.t 1)), o 78 (.call 67 [(.t 76), (.t 77)]), o 1 (.mv (.t 78))])
     (.seq (.reg [o 79 (.mv (.t 0)), o 80 (.mv (.t 5)), o 81 (.mv (.t 1)), o 82 (.iaddr 9 (.t 79) (.t 80)), o 83 (.faddr 8 (.t 82)), st (.store 1 (.t 83) (.t 81))])
     (.reg [o 84 (.mv (.t 1)), o 85 (.bin .add (.t 84) (.c (.int .i64 1))), o 1 (.mv (.t 85))]))))))))))))))))
    (.reg [o 10 (.mv (.t 5)), o 11 (.bin .add (.t 10) (.c (.int .i64 1))), o 5 (.mv (.t 11))]))))))
  (.seq (.reg [o 86 (.mv (.t 1)), o 4 (.mv (.t 86))])
  (.ret))),
  [.tmp 4]⟩
/- loop.example/g03011/laws.markAnswerS -/
def F71 : Fun := ⟨101,
  .seq (.reg [o 4 (.mv (.c (.int .i64 0)))])
  (.seq (.seq (.reg [o 5 (.mv (.c (.int .i64 0)))])
  (.block 0 (.loop (.seq (.seq (.reg [o 6 (.mv (.t 5)), o 7 (.mv (.t 0)), o 8 (.lenL (.t 7)), o 9 (.bin .lss (.t 6) (.t 8))])
    (.cond (.t 9) (.skip) (.exit 0)))
    (.seq (.block 1 (.seq (.reg [o 12 (.mv (.t 0)), o 13 (.mv (.t 5)), o 14 (.mv (.t 1)), o 15 (.iaddr 11 (.t 12) (.t 13)), o 16 (.faddr 0 (.t 15)), st (.store 1 (.t 16) (.t 14))])
     (.seq (.reg [o 17 (.mv (.t 1)), o 18 (.bin .add (.t 17) (.c (.int .i64 1))), o 1 (.mv (.t 18))])
     (.seq (.reg [o 19 (.mv (.t 0)), o 20 (.mv (.t 5)), o 21 (.mv (.t 1)), o 22 (.call 95 [(.t 21)]), o 23 (.iaddr 11 (.t 19) (.t 20)), o 24 (.faddr 1 (.t 23)), st (.store 1 (.t 24) (.t 22))])
     (.seq (.reg [o 25 (.mv (.t 1)), o 26 (.bin .add (.t 25) (.c (.int .i64 1))), o 1 (.mv (.t 26))])
     (.seq (.reg [o 27 (.mv (.t 0)), o 28 (.mv (.t 5)), o 29 (.iaddr 11 (.t 27) (.t 28)), o 30 (.faddr 2 (.t 29)), o 31 (.load none (.t 30)), o 32 (.mv (.t 1)), o 33 (.call 67 [(.t 31), (.t 32)]), o 1 (.mv (.t 33))])
     (.seq (.reg [o 34 (.mv (.t 0)), o 35 (.mv (.t 5)), o 36 (.mv (.t 1)), o 37 (.call 95 [(.t 36)]), o 38 (.iaddr 11 (.t 34) (.t 35)), o 39 (.faddr 3 (.t 38)), o 40 (.faddr 0 (.t 39)), st (.store 1 (.t 40) (.t 37))])
     (.seq (.reg [o 41 (.mv (.t 1)), o 42 (.bin .add (.t 41) (.c (.int .i64 1))), o 1 (.mv (.t 42))])
     (.seq (.reg [o 43 (.mv (.t 0)), o 44 (.mv (.t 5)), o 45 (.iaddr 11 (.t 43) (.t 44)), o 46 (.faddr 3 (.t 45)), o 47 (.faddr 1 (.t 46)), o 48 (.load none (.t 47)), o 49 (.mv (.t 1)), o 50 (.call 96 [(.t 48), (.t 49)]), o 1 (.mv (.t 50))])
     (.seq (.reg [o 51 (.mv (.t 0)), o 52 (.mv (.t 5)), o 53 (.iaddr 11 (.t 51) (.t 52)), o 54 (.faddr 3 (.t 53)), o 55 (.faddr 2 (.t 54)), o 56 (.load none (.t 55)), o 57 (.mv (.t 1)), o 58 (.call 96 [(.t 56), (.t 57)]), o 1 (.mv (.t 58))])
     (.seq (.reg [o 59 (.mv (.t 0)), o 60 (.mv (.t 5)), o 61 (.mv (.t 1)), o 62 (.call 95 [(.t 61)]), o 63 (.iaddr 11 (.t 59) (.t 60)), o 64 (.faddr 6 (.t 63)), st (.store 1 (.t 64) (.t 62))])
     (.seq (.reg [o 65 (.mv (.t 1)), o 66 (.bin .add (.t 65) (.c (.int .i64 1))), o 1 (.mv (.t 66))])
     (.seq (.reg [o 67 (.mv (.t 0)), o 68 (.mv (.t 5)), o 69 (.mv (.t 1)), o 70 (.iaddr 11 (.t 67) (.t 68)), o 71 (.faddr 7 (.t 70)), o 72 (.faddr 0 (.t 71)), st (.store 1 (.t 72) (.t 69))])
     (.seq (.reg [o 73 (.mv (.t 1)), o 74 (.bin .add (.t 73) (.c (.int .i64 1))), o 1 (.mv (.t 74))])
     (.seq (.reg [o 75 (.mv (.t 0)), o 76 (.mv (.t 5)), o 77 (.iaddr 11 (.t 75) (.t 76)), o 78 (.faddr 7 (.t 77)), o 79 (.faddr 1 (.t 78)), o 80 (.load none (.t 79)), o 81 (.mv (.t 1)), o 82 (.call 97 [(.t 80), (.t 81)]), o 1 (.mv (.t 82))])
     (.seq (.reg [o 83 (.mv (.t 0)), o 84 (.mv (.t 5)), o 85 (.mv (.t 1)), o 86 (.call 95 [(.t 85)]), o 87 (.iaddr 11 (.t 83) (.t 84)), o 88 (.faddr 7 (.t 87)), o 89 (.faddr 2 (.t 88)), st (.store 1 (.t 89) (.t 86))])
     (.seq (.reg [o 90 (.mv (.t 1)), o 91 (.bin .add (.t 90) (.c (.int .i64 1))), o 1 (.mv (.t 91))])
     (.seq (.reg [o 92 (.mv (.t 0)), o 93 (.mv (.t 5)), o 94 (.mv (.t 1)), o 95 (.call 95 [(.t 94)]), o 96 (.iaddr 11 (.t 92) (.t 93)), o 97 (.faddr 10 (.t 96)), st (.store 1 (.t 97) (.t 95))])
     (.reg [o 98 (.mv (.t 1)), o 99 (.bin .add (.t 98) (.c (.int .i64 1))), o 1 (.mv (.t 99))])))))))))))))))))))
    (.reg [o 10 (.mv (.t 5)), o 11 (.bin .add (.t 10) (.c (.int .i64 1))), o 5 (.mv (.t 11))]))))))
  (.seq (.reg [o 100 (.mv (.t 1)), o 4 (.mv (.t 100))])
  (.ret))),
  [.tmp 4]⟩
/- loop.example/g03011/laws.szIntS -/
def F72 : Fun := ⟨12,
  .seq (.reg [o 4 (.mv (.c (.int .i64 0)))])
  (.seq (.reg [o 5 (.mv (.t 1)), o 6 (.mv (.t 0)), o 7 (.lenL (.t 6)), o 8 (.bin .sub (.t 5) (.t 7)), o 1 (.mv (.t 8))])
  (.seq (.seq (.reg [o 9 (.mv (.t 1)), o 10 (.bin .lss (.t 9) (.c (.int .i64 0)))])
  (.cond (.t 10) (.seq (.reg [o 4 (.mv (.c (.int .i64 (-1))))])
   (.ret)) (.skip)))
  (.seq (.reg [o 11 (.mv (.t 1)), o 4 (.mv (.t 11))])
  (.ret)))),
  [.tmp 4]⟩
/- loop.example/g03011/spec.l1In -/
def F73 : Fun := ⟨15,
  .seq (.reg [o 6 (.mv (.c (.bool false)))])
  (.seq (.reg [o 7 (.mv (.t 0)), o 8 (.mv (.t 1)), o 9 (.bin .geq (.t 7) (.t 8)), o 10 (.mv (.t 9)), og 11 (.mv (.t 0)) 10 true, og 12 (.mv (.t 2)) 10 true, og 13 (.bin .leq (.t 11) (.t 12)) 10 true, o 14 (.pick (.t 10) (.t 13) (.c (.bool false))), o 6 (.mv (.t 14))])
  (.ret)),
  [.tmp 6]⟩
/- loop.example/g03011/spec.l34Write -/
def F74 : Fun := ⟨108,
  .seq (.reg [o 8 (.mv (.t 0)), o 9 (.mv (.t 1)), o 10 (.nilck (.t 9)), o 11 (.faddr 1 (.t 10)), o 12 (.load none (.t 11)), o 13 (.iaddr 4 (.t 8) (.t 12)), o 14 (.load (some 4) (.t 13)), o 6 (.new 4 [(.int .i64 0), (.int .i64 0), (.int .i64 0), .nsl]), st (.store 4 (.t 6) (.t 14))])
  (.seq (.reg [o 15 (.mv (.t 1)), o 16 (.nilck (.t 15)), o 17 (.faddr 3 (.t 16)), o 18 (.load none (.t 17)), o 19 (.lenL (.t 18)), o 7 (.mv (.t 19))])
  (.seq (.block 0 (.seq (.reg [o 29 (.mv (.t 1)), o 30 (.nilck (.t 29)), o 31 (.faddr 4 (.t 30)), o 32 (.load none (.t 31)), o 33 (.bin .eql (.t 32) (.c (.int .i64 0))), o 34 (.mv (.t 33)), og 35 (.faddr 0 (.t 6)) 34 true, og 36 (.load none (.t 35)) 34 true, og 37 (.bin .rem (.t 36) (.c (.int .i64 2))) 34 true, og 38 (.bin .eql (.t 37) (.c (.int .i64 0))) 34 true, o 39 (.pick (.t 34) (.t 38) (.c (.bool false))), o 28 (.mv (.t 39))])
   (.cond (.t 28) (.seq (.reg [o 40 (.faddr 0 (.t 6)), o 41 (.load none (.t 40)), o 42 (.bin .add (.t 41) (.c (.int .i64 1))), o 43 (.faddr 0 (.t 6)), st (.store 1 (.t 43) (.t 42))])
    (.seq (.reg [o 44 (.mv (.t 2)), o 45 (.faddr 1 (.t 6)), st (.store 1 (.t 45) (.t 44))])
    (.reg [o 46 (.mv (.t 1)), o 47 (.nilck (.t 46)), o 48 (.faddr 4 (.t 47)), st (.store 1 (.t 48) (.c (.int .i64 1)))]))) (.seq (.reg [o 50 (.mv (.t 1)), o 51 (.nilck (.t 50)), o 52 (.faddr 4 (.t 51)), o 53 (.load none (.t 52)), o 54 (.bin .neq (.t 53) (.c (.int .i64 1))), o 49 (.mv (.t 54))])
    (.cond (.t 49) (.skip) (.seq (.reg [o 56 (.mv (.t 1)), o 57 (.nilck (.t 56)), o 58 (.faddr 5 (.t 57)), o 59 (.load none (.t 58)), o 60 (.bin .eql (.t 59) (.c (.int .i64 0))), o 55 (.mv (.t 60))])
     (.cond (.t 55) (.seq (.reg [o 61 (.mv (.t 1)), o 62 (.nilck (.t 61)), o 63 (.faddr 2 (.t 62)), o 64 (.load none (.t 63)), o 65 (.faddr 2 (.t 6)), st (.store 1 (.t 65) (.t 64))])
      (.seq (.reg [o 66 (.faddr 3 (.t 6)), st (.store 1 (.t 66) (.c .nsl))])
      (.reg [o 67 (.mv (.t 1)), o 68 (.nilck (.t 67)), o 69 (.faddr 5 (.t 68)), st (.store 1 (.t 69) (.c (.int .i64 1)))]))) (.seq (.reg [o 71 (.mv (.t 1)), o 72 (.nilck (.t 71)), o 73 (.faddr 5 (.t 72)), o 74 (.load none (.t 73)), o 75 (.mv (.t 7)), o 76 (.bin .leq (.t 74) (.t 75)), o 70 (.mv (.t 76))])
      (.cond (.t 70) (.seq (.reg [o 77 (.faddr 3 (.t 6)), o 78 (.load none (.t 77)), o 79 (.mv (.t 1)), o 80 (.nilck (.t 79)), o 81 (.faddr 3 (.t 80)), o 82 (.load none (.t 81)), o 83 (.mv (.t 1)), o 84 (.nilck (.t 83)), o 85 (.faddr 5 (.t 84)), o 86 (.load none (.t 85)), o 87 (.bin .sub (.t 86) (.c (.int .i64 1))), o 88 (.iaddr 1 (.t 82) (.t 87)), o 89 (.load none (.t 88)), o 90 (.bslice 1 [(.int .i64 0)] 1 [(0, (.t 89))]), o 91 (.append 1 8 (.t 78) (.t 90)), o 92 (.faddr 3 (.t 6)), st (.store 1 (.t 92) (.t 91))])
       (.reg [o 93 (.mv (.t 1)), o 94 (.mv (.t 1)), o 95 (.nilck (.t 94)), o 96 (.faddr 5 (.t 95)), o 97 (.load none (.t 96)), o 98 (.bin .add (.t 97) (.c (.int .i64 1))), o 99 (.nilck (.t 93)), o 100 (.faddr 5 (.t 99)), st (.store 1 (.t 100) (.t 98))])) (.seq (.reg [o 20 (.faddr 0 (.t 6)), o 21 (.load none (.t 20)), o 22 (.bin .add (.t 21) (.c (.int .i64 1))), o 23 (.faddr 0 (.t 6)), st (.store 1 (.t 23) (.t 22))])
       (.seq (.reg [o 24 (.faddr 1 (.t 6)), st (.store 1 (.t 24) (.c (.int .i64 0)))])
       (.reg [o 25 (.mv (.t 1)), o 26 (.nilck (.t 25)), o 27 (.faddr 4 (.t 26)), st (.store 1 (.t 27) (.c (.int .i64 2)))]))))))))))))
  (.reg [o 101 (.mv (.t 0)), o 102 (.mv (.t 1)), o 103 (.nilck (.t 102)), o 104 (.faddr 1 (.t 103)), o 105 (.load none (.t 104)), o 106 (.load (some 4) (.t 6)), o 107 (.iaddr 4 (.t 101) (.t 105)), st (.store 4 (.t 107) (.t 106))]))),
  []⟩
/- loop.example/g03011/spec.l34Read -/
def F75 : Fun := ⟨123,
  .seq (.reg [o 5 (.mv (.t 0)), o 6 (.mv (.t 1)), o 7 (.nilck (.t 6)), o 8 (.faddr 1 (.t 7)), o 9 (.load none (.t 8)), o 10 (.iaddr 4 (.t 5) (.t 9)), o 11 (.load (some 4) (.t 10)), o 4 (.new 4 [(.int .i64 0), (.int .i64 0), (.int .i64 0), .nsl]), st (.store 4 (.t 4) (.t 11))])
  (.block 0 (.seq (.reg [o 16 (.mv (.t 1)), o 17 (.nilck (.t 16)), o 18 (.faddr 4 (.t 17)), o 19 (.load none (.t 18)), o 20 (.bin .eql (.t 19) (.c (.int .i64 0))), o 21 (.mv (.t 20)), og 22 (.faddr 0 (.t 4)) 21 true, og 23 (.load none (.t 22)) 21 true, og 24 (.bin .rem (.t 23) (.c (.int .i64 2))) 21 true, og 25 (.bin .eql (.t 24) (.c (.int .i64 0))) 21 true, o 26 (.pick (.t 21) (.t 25) (.c (.bool false))), o 15 (.mv (.t 26))])
   (.cond (.t 15) (.seq (.reg [o 27 (.mv (.t 1)), o 28 (.faddr 0 (.t 4)), o 29 (.load none (.t 28)), o 30 (.nilck (.t 27)), o 31 (.faddr 6 (.t 30)), st (.store 1 (.t 31) (.t 29))])
    (.reg [o 32 (.mv (.t 1)), o 33 (.nilck (.t 32)), o 34 (.faddr 4 (.t 33)), st (.store 1 (.t 34) (.c (.int .i64 1)))])) (.seq (.reg [o 36 (.mv (.t 1)), o 37 (.nilck (.t 36)), o 38 (.faddr 4 (.t 37)), o 39 (.load none (.t 38)), o 40 (.bin .eql (.t 39) (.c (.int .i64 0))), o 35 (.mv (.t 40))])
    (.cond (.t 35) (.reg [o 41 (.mv (.t 1)), o 42 (.nilck (.t 41)), o 43 (.faddr 4 (.t 42)), st (.store 1 (.t 43) (.c (.int .i64 3)))]) (.seq (.reg [o 45 (.mv (.t 1)), o 46 (.nilck (.t 45)), o 47 (.faddr 4 (.t 46)), o 48 (.load none (.t 47)), o 49 (.bin .neq (.t 48) (.c (.int .i64 1))), o 44 (.mv (.t 49))])
     (.cond (.t 44) (.skip) (.seq (.reg [o 51 (.mv (.t 1)), o 52 (.nilck (.t 51)), o 53 (.faddr 5 (.t 52)), o 54 (.load none (.t 53)), o 55 (.bin .eql (.t 54) (.c (.int .i64 0))), o 56 (.mv (.t 55)), og 57 (.faddr 2 (.t 4)) 56 true, og 58 (.load none (.t 57)) 56 true, og 59 (.mv (.t 1)) 56 true, og 60 (.nilck (.t 59)) 56 true, og 61 (.faddr 2 (.t 60)) 56 true, og 62 (.load none (.t 61)) 56 true, og 63 (.bin .neq (.t 58) (.t 62)) 56 true, o 64 (.pick (.t 56) (.t 63) (.c (.bool false))), o 50 (.mv (.t 64))])
      (.cond (.t 50) (.reg [o 65 (.mv (.t 1)), o 66 (.nilck (.t 65)), o 67 (.faddr 4 (.t 66)), st (.store 1 (.t 67) (.c (.int .i64 3)))]) (.seq (.reg [o 69 (.mv (.t 1)), o 70 (.nilck (.t 69)), o 71 (.faddr 5 (.t 70)), o 72 (.load none (.t 71)), o 73 (.bin .eql (.t 72) (.c (.int .i64 0))), o 68 (.mv (.t 73))])
       (.cond (.t 68) (.reg [o 74 (.mv (.t 1)), o 75 (.nilck (.t 74)), o 76 (.faddr 5 (.t 75)), st (.store 1 (.t 76) (.c (.int .i64 1)))]) (.seq (.reg [o 78 (.mv (.t 1)), o 79 (.nilck (.t 78)), o 80 (.faddr 5 (.t 79)), o 81 (.load none (.t 80)), o 82 (.faddr 3 (.t 4)), o 83 (.load none (.t 82)), o 84 (.lenL (.t 83)), o 85 (.bin .leq (.t 81) (.t 84)), o 77 (.mv (.t 85))])
        (.cond (.t 77) (.seq (.reg [o 86 (.mv (.t 1)), o 87 (.mv (.t 1)), o 88 (.nilck (.t 87)), o 89 (.faddr 3 (.t 88)), o 90 (.load none (.t 89)), o 91 (.faddr 3 (.t 4)), o 92 (.load none (.t 91)), o 93 (.mv (.t 1)), o 94 (.nilck (.t 93)), o 95 (.faddr 5 (.t 94)), o 96 (.load none (.t 95)), o 97 (.bin .sub (.t 96) (.c (.int .i64 1))), o 98 (.iaddr 1 (.t 92) (.t 97)), o 99 (.load none (.t 98)), o 100 (.bslice 1 [(.int .i64 0)] 1 [(0, (.t 99))]), o 101 (.append 1 8 (.t 90) (.t 100)), o 102 (.nilck (.t 86)), o 103 (.faddr 3 (.t 102)), st (.store 1 (.t 103) (.t 101))])
         (.reg [o 104 (.mv (.t 1)), o 105 (.mv (.t 1)), o 106 (.nilck (.t 105)), o 107 (.faddr 5 (.t 106)), o 108 (.load none (.t 107)), o 109 (.bin .add (.t 108) (.c (.int .i64 1))), o 110 (.nilck (.t 104)), o 111 (.faddr 5 (.t 110)), st (.store 1 (.t 111) (.t 109))])) (.seq (.reg [o 113 (.faddr 0 (.t 4)), o 114 (.load none (.t 113)), o 115 (.mv (.t 1)), o 116 (.nilck (.t 115)), o 117 (.faddr 6 (.t 116)), o 118 (.load none (.t 117)), o 119 (.bin .eql (.t 114) (.t 118)), o 112 (.mv (.t 119))])
         (.cond (.t 112) (.reg [o 120 (.mv (.t 1)), o 121 (.nilck (.t 120)), o 122 (.faddr 4 (.t 121)), st (.store 1 (.t 122) (.c (.int .i64 2)))]) (.reg [o 12 (.mv (.t 1)), o 13 (.nilck (.t 12)), o 14 (.faddr 4 (.t 13)), st (.store 1 (.t 14) (.c (.int .i64 3)))])))))))))))))))),
  []⟩
/- slices.Clone[[]loop.example/g03011/impl.Line,loop.example/g03011/impl.Line] -/
def F76 : Fun := ⟨8,
  .seq (.reg [o 2 (.mv (.c .nsl))])
  (.seq (.seq (.reg [o 3 (.mv (.t 0)), o 4 (.isnl false (.t 3))])
  (.cond (.t 4) (.seq (.reg [o 2 (.mv (.c .nsl))])
   (.ret)) (.skip)))
  (.seq (.reg [o 5 (.bslice 4 [(.int .i64 0), (.int .i64 0), (.int .i64 0), .nsl] 0 []), o 6 (.mv (.t 0)), o 7 (.append 4 48 (.t 5) (.t 6)), o 2 (.mv (.t 7))])
  (.ret))),
  [.tmp 2]⟩
/- loop.example/g03011/impl.InRange -/
def F77 : Fun := ⟨15,
  .seq (.reg [o 6 (.mv (.c (.bool false)))])
  (.seq (.reg [o 7 (.mv (.t 1)), o 8 (.mv (.t 0)), o 9 (.bin .leq (.t 7) (.t 8)), o 10 (.mv (.t 9)), og 11 (.mv (.t 0)) 10 true, og 12 (.mv (.t 2)) 10 true, og 13 (.bin .leq (.t 11) (.t 12)) 10 true, o 14 (.pick (.t 10) (.t 13) (.c (.bool false))), o 6 (.mv (.t 14))])
  (.ret)),
  [.tmp 6]⟩
/- loop.example/g03011/impl.writeAccess -/
def F78 : Fun := ⟨71,
  .seq (.block 0 (.seq (.reg [o 18 (.mv (.t 1)), o 19 (.nilck (.t 18)), o 20 (.faddr 5 (.t 19)), o 21 (.load none (.t 20)), o 22 (.bin .eql (.t 21) (.c (.int .i64 0))), o 17 (.mv (.t 22))])
   (.cond (.t 17) (.seq (.reg [o 23 (.mv (.t 0)), o 24 (.mv (.t 1)), o 25 (.nilck (.t 24)), o 26 (.faddr 2 (.t 25)), o 27 (.load none (.t 26)), o 28 (.nilck (.t 23)), o 29 (.faddr 2 (.t 28)), st (.store 1 (.t 29) (.t 27))])
    (.reg [o 30 (.mv (.t 0)), o 31 (.nilck (.t 30)), o 32 (.faddr 3 (.t 31)), st (.store 1 (.t 32) (.c .nsl))])) (.seq (.reg [o 34 (.mv (.t 1)), o 35 (.nilck (.t 34)), o 36 (.faddr 5 (.t 35)), o 37 (.load none (.t 36)), o 38 (.mv (.t 1)), o 39 (.nilck (.t 38)), o 40 (.faddr 3 (.t 39)), o 41 (.load none (.t 40)), o 42 (.lenL (.t 41)), o 43 (.bin .leq (.t 37) (.t 42)), o 33 (.mv (.t 43))])
    (.cond (.t 33) (.reg [o 44 (.mv (.t 0)), o 45 (.mv (.t 0)), o 46 (.nilck (.t 45)), o 47 (.faddr 3 (.t 46)), o 48 (.load none (.t 47)), o 49 (.mv (.t 1)), o 50 (.nilck (.t 49)), o 51 (.faddr 3 (.t 50)), o 52 (.load none (.t 51)), o 53 (.mv (.t 1)), o 54 (.nilck (.t 53)), o 55 (.faddr 5 (.t 54)), o 56 (.load none (.t 55)), o 57 (.bin .sub (.t 56) (.c (.int .i64 1))), o 58 (.iaddr 1 (.t 52) (.t 57)), o 59 (.load none (.t 58)), o 60 (.bslice 1 [(.int .i64 0)] 1 [(0, (.t 59))]), o 61 (.append 1 8 (.t 48) (.t 60)), o 62 (.nilck (.t 44)), o 63 (.faddr 3 (.t 62)), st (.store 1 (.t 63) (.t 61))]) (.seq (.reg [o 4 (.mv (.t 0)), o 5 (.nilck (.t 4)), o 6 (.faddr 0 (.t 5)), o 7 (.load none (.t 6)), o 8 (.bin .add (.t 7) (.c (.int .i64 1))), o 9 (.nilck (.t 4)), o 10 (.faddr 0 (.t 9)), st (.store 1 (.t 10) (.t 8))])
     (.seq (.reg [o 11 (.mv (.t 0)), o 12 (.nilck (.t 11)), o 13 (.faddr 1 (.t 12)), st (.store 1 (.t 13) (.c (.int .i64 0)))])
     (.seq (.reg [o 14 (.mv (.t 1)), o 15 (.nilck (.t 14)), o 16 (.faddr 4 (.t 15)), st (.store 1 (.t 16) (.c (.int .i64 2)))])
     (.ret)))))))))
  (.reg [o 64 (.mv (.t 1)), o 65 (.nilck (.t 64)), o 66 (.faddr 5 (.t 65)), o 67 (.load none (.t 66)), o 68 (.bin .add (.t 67) (.c (.int .i64 1))), o 69 (.nilck (.t 64)), o 70 (.faddr 5 (.t 69)), st (.store 1 (.t 70) (.t 68))]),
  []⟩
/- loop.example/g03011/impl.readAccess -/
def F79 : Fun := ⟨75,
  .seq (.block 0 (.seq (.reg [o 20 (.mv (.t 1)), o 21 (.nilck (.t 20)), o 22 (.faddr 5 (.t 21)), o 23 (.load none (.t 22)), o 24 (.bin .eql (.t 23) (.c (.int .i64 0))), o 19 (.mv (.t 24))])
   (.cond (.t 19) (.seq (.reg [o 25 (.mv (.t 0)), o 26 (.nilck (.t 25)), o 27 (.faddr 2 (.t 26)), o 28 (.load none (.t 27)), o 29 (.mv (.t 1)), o 30 (.nilck (.t 29)), o 31 (.faddr 2 (.t 30)), o 32 (.load none (.t 31)), o 33 (.bin .neq (.t 28) (.t 32))])
    (.cond (.t 33) (.seq (.reg [o 34 (.mv (.t 1)), o 35 (.nilck (.t 34)), o 36 (.faddr 4 (.t 35)), st (.store 1 (.t 36) (.c (.int .i64 3)))])
     (.ret)) (.skip))) (.seq (.reg [o 38 (.mv (.t 1)), o 39 (.nilck (.t 38)), o 40 (.faddr 5 (.t 39)), o 41 (.load none (.t 40)), o 42 (.mv (.t 0)), o 43 (.nilck (.t 42)), o 44 (.faddr 3 (.t 43)), o 45 (.load none (.t 44)), o 46 (.lenL (.t 45)), o 47 (.bin .leq (.t 41) (.t 46)), o 37 (.mv (.t 47))])
    (.cond (.t 37) (.reg [o 48 (.mv (.t 1)), o 49 (.mv (.t 1)), o 50 (.nilck (.t 49)), o 51 (.faddr 3 (.t 50)), o 52 (.load none (.t 51)), o 53 (.mv (.t 0)), o 54 (.nilck (.t 53)), o 55 (.faddr 3 (.t 54)), o 56 (.load none (.t 55)), o 57 (.mv (.t 1)), o 58 (.nilck (.t 57)), o 59 (.faddr 5 (.t 58)), o 60 (.load none (.t 59)), o 61 (.bin .sub (.t 60) (.c (.int .i64 1))), o 62 (.iaddr 1 (.t 56) (.t 61)), o 63 (.load none (.t 62)), o 64 (.bslice 1 [(.int .i64 0)] 1 [(0, (.t 63))]), o 65 (.append 1 8 (.t 52) (.t 64)), o 66 (.nilck (.t 48)), o 67 (.faddr 3 (.t 66)), st (.store 1 (.t 67) (.t 65))]) (.seq (.reg [o 4 (.mv (.t 1)), o 5 (.nilck (.t 4)), o 6 (.faddr 4 (.t 5)), st (.store 1 (.t 6) (.c (.int .i64 3)))])
     (.seq (.seq (.reg [o 7 (.mv (.t 0)), o 8 (.nilck (.t 7)), o 9 (.faddr 0 (.t 8)), o 10 (.load none (.t 9)), o 11 (.mv (.t 1)), o 12 (.nilck (.t 11)), o 13 (.faddr 6 (.t 12)), o 14 (.load none (.t 13)), o 15 (.bin .eql (.t 10) (.t 14))])
     (.cond (.t 15) (.reg [o 16 (.mv (.t 1)), o 17 (.nilck (.t 16)), o 18 (.faddr 4 (.t 17)), st (.store 1 (.t 18) (.c (.int .i64 2)))]) (.skip)))
     (.ret))))))))
  (.reg [o 68 (.mv (.t 1)), o 69 (.nilck (.t 68)), o 70 (.faddr 5 (.t 69)), o 71 (.load none (.t 70)), o 72 (.bin .add (.t 71) (.c (.int .i64 1))), o 73 (.nilck (.t 68)), o 74 (.faddr 5 (.t 73)), st (.store 1 (.t 74) (.t 72))]),
  []⟩
/- loop.example/g03011/laws.szFile -/
def F80 : Fun := ⟨20,
  .seq (.reg [o 2 (.box 3 (.t 0)), o 4 (.mv (.c (.int .i64 0)))])
  (.seq (.reg [o 5 (.mv (.t 1)), o 6 (.faddr 0 (.t 2)), o 7 (.load none (.t 6)), o 8 (.lenS (.t 7)), o 9 (.bin .sub (.t 5) (.t 8)), o 1 (.mv (.t 9))])
  (.seq (.seq (.reg [o 10 (.mv (.t 1)), o 11 (.bin .lss (.t 10) (.c (.int .i64 0)))])
  (.cond (.t 11) (.seq (.reg [o 4 (.mv (.c (.int .i64 (-1))))])
   (.ret)) (.skip)))
  (.seq (.reg [o 12 (.mv (.t 1)), o 13 (.faddr 1 (.t 2)), o 14 (.load none (.t 13)), o 15 (.lenS (.t 14)), o 16 (.bin .sub (.t 12) (.t 15)), o 1 (.mv (.t 16))])
  (.seq (.seq (.reg [o 17 (.mv (.t 1)), o 18 (.bin .lss (.t 17) (.c (.int .i64 0)))])
  (.cond (.t 18) (.seq (.reg [o 4 (.mv (.c (.int .i64 (-1))))])
   (.ret)) (.skip)))
  (.seq (.reg [o 19 (.mv (.t 1)), o 4 (.mv (.t 19))])
  (.ret)))))),
  [.tmp 4]⟩
/- loop.example/g03011/laws.szSession -/
def F81 : Fun := ⟨20,
  .seq (.reg [o 2 (.box 4 (.t 0)), o 4 (.mv (.c (.int .i64 0)))])
  (.seq (.reg [o 5 (.mv (.t 1)), o 6 (.faddr 0 (.t 2)), o 7 (.load none (.t 6)), o 8 (.lenS (.t 7)), o 9 (.bin .sub (.t 5) (.t 8)), o 1 (.mv (.t 9))])
  (.seq (.seq (.reg [o 10 (.mv (.t 1)), o 11 (.bin .lss (.t 10) (.c (.int .i64 0)))])
  (.cond (.t 11) (.seq (.reg [o 4 (.mv (.c (.int .i64 (-1))))])
   (.ret)) (.skip)))
  (.seq (.reg [o 12 (.mv (.t 1)), o 13 (.faddr 1 (.t 2)), o 14 (.load none (.t 13)), o 15 (.lenS (.t 14)), o 16 (.bin .sub (.t 12) (.t 15)), o 1 (.mv (.t 16))])
  (.seq (.seq (.reg [o 17 (.mv (.t 1)), o 18 (.bin .lss (.t 17) (.c (.int .i64 0)))])
  (.cond (.t 18) (.seq (.reg [o 4 (.mv (.c (.int .i64 (-1))))])
   (.ret)) (.skip)))
  (.seq (.reg [o 19 (.mv (.t 1)), o 4 (.mv (.t 19))])
  (.ret)))))),
  [.tmp 4]⟩
/- loop.example/g03011/laws.szJob -/
def F82 : Fun := ⟨19,
  .seq (.reg [o 2 (.box 5 (.t 0)), o 4 (.mv (.c (.int .i64 0)))])
  (.seq (.reg [o 5 (.faddr 1 (.t 2)), o 6 (.load (some 3) (.t 5)), o 7 (.mv (.t 1)), o 8 (.call 98 [(.t 6), (.t 7)]), o 1 (.mv (.t 8))])
  (.seq (.seq (.reg [o 9 (.mv (.t 1)), o 10 (.bin .lss (.t 9) (.c (.int .i64 0)))])
  (.cond (.t 10) (.seq (.reg [o 4 (.mv (.c (.int .i64 (-1))))])
   (.ret)) (.skip)))
  (.seq (.reg [o 11 (.mv (.t 1)), o 12 (.faddr 4 (.t 2)), o 13 (.load none (.t 12)), o 14 (.lenS (.t 13)), o 15 (.bin .sub (.t 11) (.t 14)), o 1 (.mv (.t 15))])
  (.seq (.seq (.reg [o 16 (.mv (.t 1)), o 17 (.bin .lss (.t 16) (.c (.int .i64 0)))])
  (.cond (.t 17) (.seq (.reg [o 4 (.mv (.c (.int .i64 (-1))))])
   (.ret)) (.skip)))
  (.seq (.reg [o 18 (.mv (.t 1)), o 4 (.mv (.t 18))])
  (.ret)))))),
  [.tmp 4]⟩
/- loop.example/g03011/laws.szWorker -/
def F83 : Fun := ⟨25,
  .seq (.reg [o 2 (.box 9 (.t 0)), o 4 (.mv (.c (.int .i64 0)))])
  (.seq (.reg [o 5 (.faddr 1 (.t 2)), o 6 (.load (some 5) (.t 5)), o 7 (.mv (.t 1)), o 8 (.call 82 [(.t 6), (.t 7)]), o 1 (.mv (.t 8))])
  (.seq (.seq (.reg [o 9 (.mv (.t 1)), o 10 (.bin .lss (.t 9) (.c (.int .i64 0)))])
  (.cond (.t 10) (.seq (.reg [o 4 (.mv (.c (.int .i64 (-1))))])
   (.ret)) (.skip)))
  (.seq (.reg [o 11 (.mv (.t 1)), o 12 (.faddr 6 (.t 2)), o 13 (.load none (.t 12)), o 14 (.lenS (.t 13)), o 15 (.bin .sub (.t 11) (.t 14)), o 1 (.mv (.t 15))])
  (.seq (.seq (.reg [o 16 (.mv (.t 1)), o 17 (.bin .lss (.t 16) (.c (.int .i64 0)))])
  (.cond (.t 17) (.seq (.reg [o 4 (.mv (.c (.int .i64 (-1))))])
   (.ret)) (.skip)))
  (.seq (.reg [o 18 (.faddr 7 (.t 2)), o 19 (.load none (.t 18)), o 20 (.mv (.t 1)), o 21 (.call 49 [(.t 19), (.t 20)]), o 1 (.mv (.t 21))])
  (.seq (.seq (.reg [o 22 (.mv (.t 1)), o 23 (.bin .lss (.t 22) (.c (.int .i64 0)))])
  (.cond (.t 23) (.seq (.reg [o 4 (.mv (.c (.int .i64 (-1))))])
   (.ret)) (.skip)))
  (.seq (.reg [o 24 (.mv (.t 1)), o 4 (.mv (.t 24))])
  (.ret)))))))),
  [.tmp 4]⟩
/- loop.example/g03011/laws.szAnswer -/
def F84 : Fun := ⟨45,
  .seq (.reg [o 2 (.box 11 (.t 0)), o 4 (.mv (.c (.int .i64 0)))])
  (.seq (.reg [o 5 (.mv (.t 1)), o 6 (.faddr 1 (.t 2)), o 7 (.load none (.t 6)), o 8 (.lenS (.t 7)), o 9 (.bin .sub (.t 5) (.t 8)), o 1 (.mv (.t 9))])
  (.seq (.seq (.reg [o 10 (.mv (.t 1)), o 11 (.bin .lss (.t 10) (.c (.int .i64 0)))])
  (.cond (.t 11) (.seq (.reg [o 4 (.mv (.c (.int .i64 (-1))))])
   (.ret)) (.skip)))
  (.seq (.reg [o 12 (.faddr 2 (.t 2)), o 13 (.load none (.t 12)), o 14 (.mv (.t 1)), o 15 (.call 49 [(.t 13), (.t 14)]), o 1 (.mv (.t 15))])
  (.seq (.seq (.reg [o 16 (.mv (.t 1)), o 17 (.bin .lss (.t 16) (.c (.int .i64 0)))])
  (.cond (.t 17) (.seq (.reg [o 4 (.mv (.c (.int .i64 (-1))))])
   (.ret)) (.skip)))
  (.seq (.reg [o 18 (.faddr 3 (.t 2)), o 19 (.load (some 3) (.t 18)), o 20 (.mv (.t 1)), o 21 (.call 98 [(.t 19), (.t 20)]), o 1 (.mv (.t 21))])
  (.seq (.seq (.reg [o 22 (.mv (.t 1)), o 23 (.bin .lss (.t 22) (.c (.int .i64 0)))])
  (.cond (.t 23) (.seq (.reg [o 4 (.mv (.c (.int .i64 (-1))))])
   (.ret)) (.skip)))
  (.seq (.reg [o 24 (.mv (.t 1)), o 25 (.faddr 6 (.t 2)), o 26 (.load none (.t 25)), o 27 (.lenS (.t 26)), o 28 (.bin .sub (.t 24) (.t 27)), o 1 (.mv (.t 28))])
  (.seq (.seq (.reg [o 29 (.mv (.t 1)), o 30 (.bin .lss (.t 29) (.c (.int .i64 0)))])
  (.cond (.t 30) (.seq (.reg [o 4 (.mv (.c (.int .i64 (-1))))])
   (.ret)) (.skip)))
  (.seq (.reg [o 31 (.faddr 7 (.t 2)), o 32 (.load (some 3) (.t 31)), o 33 (.mv (.t 1)), o 34 (.call 99 [(.t 32), (.t 33)]), o 1 (.mv (.t 34))])
  (.seq (.seq (.reg [o 35 (.mv (.t 1)), o 36 (.bin .lss (.t 35) (.c (.int .i64 0)))])
  (.cond (.t 36) (.seq (.reg [o 4 (.mv (.c (.int .i64 (-1))))])
   (.ret)) (.skip)))
  (.seq (.reg [o 37 (.mv (.t 1)), o 38 (.faddr 10 (.t 2)), o 39 (.load none (.t 38)), o 40 (.lenS (.t 39)), o 41 (.bin .sub (.t 37) (.t 40)), o 1 (.mv (.t 41))])
  (.seq (.seq (.reg [o 42 (.mv (.t 1)), o 43 (.bin .lss (.t 42) (.c (.int .i64 0)))])
  (.cond (.t 43) (.seq (.reg [o 4 (.mv (.c (.int .i64 (-1))))])
   (.ret)) (.skip)))
  (.seq (.reg [o 44 (.mv (.t 1)), o 4 (.mv (.t 44))])
  (.ret)))))))))))))),
  [.tmp 4]⟩
/- loop.example/g03011/laws.toFile -/
def F85 : Fun := ⟨14,
  .seq (.reg [o 1 (.box 3 (.t 0)), o 2 (.new 3 [(.str []), (.str []), (.int .i64 0)])])
  (.seq (.reg [o 3 (.new 3 [(.str []), (.str []), (.int .i64 0)])])
  (.seq (.reg [o 4 (.faddr 0 (.t 1)), o 5 (.load none (.t 4)), o 6 (.faddr 0 (.t 3)), st (.store 1 (.t 6) (.t 5))])
  (.seq (.reg [o 7 (.faddr 1 (.t 1)), o 8 (.load none (.t 7)), o 9 (.faddr 1 (.t 3)), st (.store 1 (.t 9) (.t 8))])
  (.seq (.reg [o 10 (.faddr 2 (.t 1)), o 11 (.load none (.t 10)), o 12 (.faddr 2 (.t 3)), st (.store 1 (.t 12) (.t 11))])
  (.seq (.reg [o 13 (.load (some 3) (.t 3)), st (.store 3 (.t 2) (.t 13))])
  (.ret)))))),
  [.cell 2 (some 3)]⟩
/- loop.example/g03011/laws.toSession -/
def F86 : Fun := ⟨17,
  .seq (.reg [o 1 (.box 4 (.t 0)), o 2 (.new 4 [(.str []), (.str []), (.int .i64 0), (.int .i64 0)])])
  (.seq (.reg [o 3 (.new 4 [(.str []), (.str []), (.int .i64 0), (.int .i64 0)])])
  (.seq (.reg [o 4 (.faddr 0 (.t 1)), o 5 (.load none (.t 4)), o 6 (.faddr 0 (.t 3)), st (.store 1 (.t 6) (.t 5))])
  (.seq (.reg [o 7 (.faddr 1 (.t 1)), o 8 (.load none (.t 7)), o 9 (.faddr 1 (.t 3)), st (.store 1 (.t 9) (.t 8))])
  (.seq (.reg [o 10 (.faddr 2 (.t 1)), o 11 (.load none (.t 10)), o 12 (.faddr 2 (.t 3)), st (.store 1 (.t 12) (.t 11))])
  (.seq (.reg [o 13 (.faddr 3 (.t 1)), o 14 (.load none (.t 13)), o 15 (.faddr 3 (.t 3)), st (.store 1 (.t 15) (.t 14))])
  (.seq (.reg [o 16 (.load (some 4) (.t 3)), st (.store 4 (.t 2) (.t 16))])
  (.ret))))))),
  [.cell 2 (some 4)]⟩
/- loop.example/g03011/laws.toJob -/
def F87 : Fun := ⟨15,
  .seq (.reg [o 1 (.box 5 (.t 0)), o 2 (.new 5 [(.int .i64 0), (.str []), .nsl, .nsl, (.str [])])])
  (.seq (.reg [o 3 (.new 5 [(.int .i64 0), (.str []), .nsl, .nsl, (.str [])])])
  (.seq (.reg [o 4 (.faddr 0 (.t 1)), o 5 (.load none (.t 4)), o 6 (.faddr 0 (.t 3)), st (.store 1 (.t 6) (.t 5))])
  (.seq (.reg [o 7 (.faddr 1 (.t 1)), o 8 (.load (some 3) (.t 7)), o 9 (.call 100 [(.t 8)]), o 10 (.faddr 1 (.t 3)), st (.store 3 (.t 10) (.t 9))])
  (.seq (.reg [o 11 (.faddr 4 (.t 1)), o 12 (.load none (.t 11)), o 13 (.faddr 4 (.t 3)), st (.store 1 (.t 13) (.t 12))])
  (.seq (.reg [o 14 (.load (some 5) (.t 3)), st (.store 5 (.t 2) (.t 14))])
  (.ret)))))),
  [.cell 2 (some 5)]⟩
/- loop.example/g03011/laws.toWorker -/
def F88 : Fun := ⟨22,
  .seq (.reg [o 1 (.box 9 (.t 0)), o 2 (.new 9 [(.int .i64 0), (.int .i64 0), (.str []), .nsl, .nsl, (.str []), (.str []), .nsl, (.int .i64 0)])])
  (.seq (.reg [o 3 (.new 9 [(.int .i64 0), (.int .i64 0), (.str []), .nsl, .nsl, (.str []), (.str []), .nsl, (.int .i64 0)])])
  (.seq (.reg [o 4 (.faddr 0 (.t 1)), o 5 (.load none (.t 4)), o 6 (.faddr 0 (.t 3)), st (.store 1 (.t 6) (.t 5))])
  (.seq (.reg [o 7 (.faddr 1 (.t 1)), o 8 (.load (some 5) (.t 7)), o 9 (.call 87 [(.t 8)]), o 10 (.faddr 1 (.t 3)), st (.store 5 (.t 10) (.t 9))])
  (.seq (.reg [o 11 (.faddr 6 (.t 1)), o 12 (.load none (.t 11)), o 13 (.faddr 6 (.t 3)), st (.store 1 (.t 13) (.t 12))])
  (.seq (.reg [o 14 (.faddr 7 (.t 1)), o 15 (.load none (.t 14)), o 16 (.call 54 [(.t 15)]), o 17 (.faddr 7 (.t 3)), st (.store 1 (.t 17) (.t 16))])
  (.seq (.reg [o 18 (.faddr 8 (.t 1)), o 19 (.load none (.t 18)), o 20 (.faddr 8 (.t 3)), st (.store 1 (.t 20) (.t 19))])
  (.seq (.reg [o 21 (.load (some 9) (.t 3)), st (.store 9 (.t 2) (.t 21))])
  (.ret)))))))),
  [.cell 2 (some 9)]⟩
/- loop.example/g03011/laws.toAnswer -/
def F89 : Fun := ⟨29,
  .seq (.reg [o 1 (.box 11 (.t 0)), o 2 (.new 11 [(.int .i64 0), (.str []), .nsl, (.str []), .nsl, .nsl, (.str []), (.int .i64 0), .nsl, (.str []), (.str [])])])
  (.seq (.reg [o 3 (.new 11 [(.int .i64 0), (.str []), .nsl, (.str []), .nsl, .nsl, (.str []), (.int .i64 0), .nsl, (.str []), (.str [])])])
  (.seq (.reg [o 4 (.faddr 0 (.t 1)), o 5 (.load none (.t 4)), o 6 (.faddr 0 (.t 3)), st (.store 1 (.t 6) (.t 5))])
  (.seq (.reg [o 7 (.faddr 1 (.t 1)), o 8 (.load none (.t 7)), o 9 (.faddr 1 (.t 3)), st (.store 1 (.t 9) (.t 8))])
  (.seq (.reg [o 10 (.faddr 2 (.t 1)), o 11 (.load none (.t 10)), o 12 (.call 54 [(.t 11)]), o 13 (.faddr 2 (.t 3)), st (.store 1 (.t 13) (.t 12))])
  (.seq (.reg [o 14 (.faddr 3 (.t 1)), o 15 (.load (some 3) (.t 14)), o 16 (.call 100 [(.t 15)]), o 17 (.faddr 3 (.t 3)), st (.store 3 (.t 17) (.t 16))])
  (.seq (.reg [o 18 (.faddr 6 (.t 1)), o 19 (.load none (.t 18)), o 20 (.faddr 6 (.t 3)), st (.store 1 (.t 20) (.t 19))])
  (.seq (.reg [o 21 (.faddr 7 (.t 1)), o 22 (.load (some 3) (.t 21)), o 23 (.call 101 [(.t 22)]), o 24 (.faddr 7 (.t 3)), st (.store 3 (.t 24) (.t 23))])
  (.seq (.reg [o 25 (.faddr 10 (.t 1)), o 26 (.load none (.t 25)), o 27 (.faddr 10 (.t 3)), st (.store 1 (.t 27) (.t 26))])
  (.seq (.reg [o 28 (.load (some 11) (.t 3)), st (.store 11 (.t 2) (.t 28))])
  (.ret)))))))))),
  [.cell 2 (some 11)]⟩
/- loop.example/g03011/laws.eqFile -/
def F90 : Fun := ⟨20,
  .seq (.reg [o 2 (.box 3 (.t 0)), o 3 (.box 3 (.t 1)), o 4 (.mv (.c (.bool false)))])
  (.seq (.seq (.reg [o 5 (.faddr 0 (.t 2)), o 6 (.load none (.t 5)), o 7 (.faddr 0 (.t 3)), o 8 (.load none (.t 7)), o 9 (.bin .neq (.t 6) (.t 8))])
  (.cond (.t 9) (.seq (.reg [o 4 (.mv (.c (.bool false)))])
   (.ret)) (.skip)))
  (.seq (.seq (.reg [o 10 (.faddr 1 (.t 2)), o 11 (.load none (.t 10)), o 12 (.faddr 1 (.t 3)), o 13 (.load none (.t 12)), o 14 (.bin .neq (.t 11) (.t 13))])
  (.cond (.t 14) (.seq (.reg [o 4 (.mv (.c (.bool false)))])
   (.ret)) (.skip)))
  (.seq (.seq (.reg [o 15 (.faddr 2 (.t 2)), o 16 (.load none (.t 15)), o 17 (.faddr 2 (.t 3)), o 18 (.load none (.t 17)), o 19 (.bin .neq (.t 16) (.t 18))])
  (.cond (.t 19) (.seq (.reg [o 4 (.mv (.c (.bool false)))])
   (.ret)) (.skip)))
  (.seq (.reg [o 4 (.mv (.c (.bool true)))])
  (.ret))))),
  [.tmp 4]⟩
/- loop.example/g03011/laws.eqSession -/
def F91 : Fun := ⟨25,
  .seq (.reg [o 2 (.box 4 (.t 0)), o 3 (.box 4 (.t 1)), o 4 (.mv (.c (.bool false)))])
  (.seq (.seq (.reg [o 5 (.faddr 0 (.t 2)), o 6 (.load none (.t 5)), o 7 (.faddr 0 (.t 3)), o 8 (.load none (.t 7)), o 9 (.bin .neq (.t 6) (.t 8))])
  (.cond (.t 9) (.seq (.reg [o 4 (.mv (.c (.bool false)))])
   (.ret)) (.skip)))
  (.seq (.seq (.reg [o 10 (.faddr 1 (.t 2)), o 11 (.load none (.t 10)), o 12 (.faddr 1 (.t 3)), o 13 (.load none (.t 12)), o 14 (.bin .neq (.t 11) (.t 13))])
  (.cond (.t 14) (.seq (.reg [o 4 (.mv (.c (.bool false)))])
   (.ret)) (.skip)))
  (.seq (.seq (.reg [o 15 (.faddr 2 (.t 2)), o 16 (.load none (.t 15)), o 17 (.faddr 2 (.t 3)), o 18 (.load none (.t 17)), o 19 (.bin .neq (.t 16) (.t 18))])
  (.cond (.t 19) (.seq (.reg [o 4 (.mv (.c (.bool false)))])
   (.ret)) (.skip)))
  (.seq (.seq (.reg [o 20 (.faddr 3 (.t 2)), o 21 (.load none (.t 20)), o 22 (.faddr 3 (.t 3)), o 23 (.load none (.t 22)), o 24 (.bin .neq (.t 21) (.t 23))])
  (.cond (.t 24) (.seq (.reg [o 4 (.mv (.c (.bool false)))])
   (.ret)) (.skip)))
  (.seq (.reg [o 4 (.mv (.c (.bool true)))])
  (.ret)))))),
  [.tmp 4]⟩
/- loop.example/g03011/laws.eqJob -/
def F92 : Fun := ⟨21,
  .seq (.reg [o 2 (.box 5 (.t 0)), o 3 (.box 5 (.t 1)), o 4 (.mv (.c (.bool false)))])
  (.seq (.seq (.reg [o 5 (.faddr 0 (.t 2)), o 6 (.load none (.t 5)), o 7 (.faddr 0 (.t 3)), o 8 (.load none (.t 7)), o 9 (.bin .neq (.t 6) (.t 8))])
  (.cond (.t 9) (.seq (.reg [o 4 (.mv (.c (.bool false)))])
   (.ret)) (.skip)))
  (.seq (.seq (.reg [o 10 (.faddr 1 (.t 2)), o 11 (.load (some 3) (.t 10)), o 12 (.faddr 1 (.t 3)), o 13 (.load (some 3) (.t 12)), o 14 (.call 102 [(.t 11), (.t 13)]), o 15 (.un .not (.t 14))])
  (.cond (.t 15) (.seq (.reg [o 4 (.mv (.c (.bool false)))])
   (.ret)) (.skip)))
  (.seq (.seq (.reg [o 16 (.faddr 4 (.t 2)), o 17 (.load none (.t 16)), o 18 (.faddr 4 (.t 3)), o 19 (.load none (.t 18)), o 20 (.bin .neq (.t 17) (.t 19))])
  (.cond (.t 20) (.seq (.reg [o 4 (.mv (.c (.bool false)))])
   (.ret)) (.skip)))
  (.seq (.reg [o 4 (.mv (.c (.bool true)))])
  (.ret))))),
  [.tmp 4]⟩
/- loop.example/g03011/laws.eqWorker -/
def F93 : Fun := ⟨32,
  .seq (.reg [o 2 (.box 9 (.t 0)), o 3 (.box 9 (.t 1)), o 4 (.mv (.c (.bool false)))])
  (.seq (.seq (.reg [o 5 (.faddr 0 (.t 2)), o 6 (.load none (.t 5)), o 7 (.faddr 0 (.t 3)), o 8 (.load none (.t 7)), o 9 (.bin .neq (.t 6) (.t 8))])
  (.cond (.t 9) (.seq (.reg [o 4 (.mv (.c (.bool false)))])
   (.ret)) (.skip)))
  (.seq (.seq (.reg [o 10 (.faddr 1 (.t 2)), o 11 (.load (some 5) (.t 10)), o 12 (.faddr 1 (.t 3)), o 13 (.load (some 5) (.t 12)), o 14 (.call 92 [(.t 11), (.t 13)]), o 15 (.un .not (.t 14))])
  (.cond (.t 15) (.seq (.reg [o 4 (.mv (.c (.bool false)))])
   (.ret)) (.skip)))
  (.seq (.seq (.reg [o 16 (.faddr 6 (.t 2)), o 17 (.load none (.t 16)), o 18 (.faddr 6 (.t 3)), o 19 (.load none (.t 18)), o 20 (.bin .neq (.t 17) (.t 19))])
  (.cond (.t 20) (.seq (.reg [o 4 (.mv (.c (.bool false)))])
   (.ret)) (.skip)))
  (.seq (.seq (.reg [o 21 (.faddr 7 (.t 2)), o 22 (.load none (.t 21)), o 23 (.faddr 7 (.t 3)), o 24 (.load none (.t 23)), o 25 (.call 60 [(.t 22), (.t 24)]), o 26 (.un .not (.t 25))])
  (.cond (.t 26) (.seq (.reg [o 4 (.mv (.c (.bool false)))])
   (.ret)) (.skip)))
  (.seq (.seq (.reg [o 27 (.faddr 8 (.t 2)), o 28 (.load none (.t 27)), o 29 (.faddr 8 (.t 3)), o 30 (.load none (.t 29)), o 31 (.bin .neq (.t 28) (.t 30))])
  (.cond (.t 31) (.seq (.reg [o 4 (.mv (.c (.bool false)))])
   (.ret)) (.skip)))
  (.seq (.reg [o 4 (.mv (.c (.bool true)))])
  (.ret))))))),
  [.tmp 4]⟩
/- loop.example/g03011/laws.eqAnswer -/
def F94 : Fun := ⟨43,
  .seq (.reg [o 2 (.box 11 (.t 0)), o 3 (.box 11 (.t 1)), o 4 (.mv (.c (.bool false)))])
  (.seq (.seq (.reg [o 5 (.faddr 0 (.t 2)), o 6 (.load none (.t 5)), o 7 (.faddr 0 (.t 3)), o 8 (.load none (.t 7)), o 9 (.bin .neq (.t 6) (.t 8))])
  (.cond (.t 9) (.seq (.reg [o 4 (.mv (.c (.bool false)))])
   (.ret)) (.skip)))
  (.seq (.seq (.reg [o 10 (.faddr 1 (.t 2)), o 11 (.load none (.t 10)), o 12 (.faddr 1 (.t 3)), o 13 (.load none (.t 12)), o 14 (.bin .neq (.t 11) (.t 13))])
  (.cond (.t 14) (.seq (.reg [o 4 (.mv (.c (.bool false)))])
   (.ret)) (.skip)))
  (.seq (.seq (.reg [o 15 (.faddr 2 (.t 2)), o 16 (.load none (.t 15)), o 17 (.faddr 2 (.t 3)), o 18 (.load none (.t 17)), o 19 (.call 60 [(.t 16), (.t 18)]), o 20 (.un .not (.t 19))])
  (.cond (.t 20) (.seq (.reg [o 4 (.mv (.c (.bool false)))])
   (.ret)) (.skip)))
  (.seq (.seq (.reg [o 21 (.faddr 3 (.t 2)), o 22 (.load (some 3) (.t 21)), o 23 (.faddr 3 (.t 3)), o 24 (.load (some 3) (.t 23)), o 25 (.call 102 [(.t 22), (.t 24)]), o 26 (.un .not (.t 25))])
  (.cond (.t 26) (.seq (.reg [o 4 (.mv (.c (.bool false)))])
   (.ret)) (.skip)))
  (.seq (.seq (.reg [o 27 (.faddr 6 (.t 2)), o 28 (.load none (.t 27)), o 29 (.faddr 6 (.t 3)), o 30 (.load none (.t 29)), o 31 (.bin .neq (.t 28) (.t 30))])
  (.cond (.t 31) (.seq (.reg [o 4 (.mv (.c (.bool false)))])
   (.ret)) (.skip)))
  (.seq (.seq (.reg [o 32 (.faddr 7 (.t 2)), o 33 (.load (some 3) (.t 32)), o 34 (.faddr 7 (.t 3)), o 35 (.load (some 3) (.t 34)), o 36 (.call 103 [(.t 33), (.t 35)]), o 37 (.un .not (.t 36))])
  (.cond (.t 37) (.seq (.reg [o 4 (.mv (.c (.bool false)))])
   (.ret)) (.skip)))
  (.seq (.seq (.reg [o 38 (.faddr 10 (.t 2)), o 39 (.load none (.t 38)), o 40 (.faddr 10 (.t 3)), o 41 (.load none (.t 40)), o 42 (.bin .neq (.t 39) (.t 41))])
  (.cond (.t 42) (.seq (.reg [o 4 (.mv (.c (.bool false)))])
   (.ret)) (.skip)))
  (.seq (.reg [o 4 (.mv (.c (.bool true)))])
  (.ret))))))))),
  [.tmp 4]⟩
/- loop.example/g03011/laws.markText -/
def F95 : Fun := ⟨20,
  .seq (.reg [o 2 (.mv (.c (.str [])))])
  (.seq (.seq (.reg [o 4 (.mv (.t 0)), o 5 (.bin .leq (.t 4) (.c (.int .i64 0)))])
  (.cond (.t 5) (.seq (.reg [o 2 (.mv (.c (.str [109, 48])))])
   (.ret)) (.skip)))
  (.seq (.reg [o 3 (.mv (.c (.str [])))])
  (.seq (.block 0 (.loop (.seq (.seq (.reg [o 6 (.mv (.t 0)), o 7 (.bin .gtr (.t 6) (.c (.int .i64 0)))])
    (.cond (.t 7) (.skip) (.exit 0)))
    (.block 1 (.seq (.reg [o 8 (.mv (.t 0)), o 9 (.bin .rem (.t 8) (.c (.int .i64 10))), o 10 (.bin .add (.c (.int .i64 48)) (.t 9)), o 11 (.toInt .u8 (.t 10)), o 12 (.bslice 1 [(.int .u8 0)] 1 [(0, (.t 11))]), o 13 (.toStr (.t 12)), o 14 (.mv (.t 3)), o 15 (.bin .add (.t 13) (.t 14)), o 3 (.mv (.t 15))])
     (.reg [o 16 (.mv (.t 0)), o 17 (.bin .quo (.t 16) (.c (.int .i64 10))), o 0 (.mv (.t 17))]))))))
  (.seq (.reg [o 18 (.mv (.t 3)), o 19 (.bin .add (.c (.str [109])) (.t 18)), o 2 (.mv (.t 19))])
  (.ret))))),
  [.tmp 2]⟩
/- loop.example/g03011/laws.markPairS -/
def F96 : Fun := ⟨29,
  .seq (.reg [o 4 (.mv (.c (.int .i64 0)))])
  (.seq (.seq (.reg [o 5 (.mv (.c (.int .i64 0)))])
  (.block 0 (.loop (.seq (.seq (.reg [o 6 (.mv (.t 5)), o 7 (.mv (.t 0)), o 8 (.lenL (.t 7)), o 9 (.bin .lss (.t 6) (.t 8))])
    (.cond (.t 9) (.skip) (.exit 0)))
    (.seq (.block 1 (.seq (.reg [o 12 (.mv (.t 0)), o 13 (.mv (.t 5)), o 14 (.mv (.t 1)), o 15 (.call 95 [(.t 14)]), o 16 (.iaddr 2 (.t 12) (.t 13)), o 17 (.faddr 0 (.t 16)), st (.store 1 (.t 17) (.t 15))])
     (.seq (.reg [o 18 (.mv (.t 1)), o 19 (.bin .add (.t 18) (.c (.int .i64 1))), o 1 (.mv (.t 19))])
     (.seq (.reg [o 20 (.mv (.t 0)), o 21 (.mv (.t 5)), o 22 (.mv (.t 1)), o 23 (.call 95 [(.t 22)]), o 24 (.iaddr 2 (.t 20) (.t 21)), o 25 (.faddr 1 (.t 24)), st (.store 1 (.t 25) (.t 23))])
     (.reg [o 26 (.mv (.t 1)), o 27 (.bin .add (.t 26) (.c (.int .i64 1))), o 1 (.mv (.t 27))])))))
    (.reg [o 10 (.mv (.t 5)), o 11 (.bin .add (.t 10) (.c (.int .i64 1))), o 5 (.mv (.t 11))]))))))
  (.seq (.reg [o 28 (.mv (.t 1)), o 4 (.mv (.t 28))])
  (.ret))),
  [.tmp 4]⟩
/- loop.example/g03011/laws.markHeaderS -/
def F97 : Fun := ⟨29,
  .seq (.reg [o 4 (.mv (.c (.int .i64 0)))])
  (.seq (.seq (.reg [o 5 (.mv (.c (.int .i64 0)))])
  (.block 0 (.loop (.seq (.seq (.reg [o 6 (.mv (.t 5)), o 7 (.mv (.t 0)), o 8 (.lenL (.t 7)), o 9 (.bin .lss (.t 6) (.t 8))])
    (.cond (.t 9) (.skip) (.exit 0)))
    (.seq (.block 1 (.seq (.reg [o 12 (.mv (.t 0)), o 13 (.mv (.t 5)), o 14 (.mv (.t 1)), o 15 (.call 95 [(.t 14)]), o 16 (.iaddr 2 (.t 12) (.t 13)), o 17 (.faddr 0 (.t 16)), st (.store 1 (.t 17) (.t 15))])
     (.seq (.reg [o 18 (.mv (.t 1)), o 19 (.bin .add (.t 18) (.c (.int .i64 1))), o 1 (.mv (.t 19))])
     (.seq (.reg [o 20 (.mv (.t 0)), o 21 (.mv (.t 5)), o 22 (.mv (.t 1)), o 23 (.call 95 [(.t 22)]), o 24 (.iaddr 2 (.t 20) (.t 21)), o 25 (.faddr 1 (.t 24)), st (.store 1 (.t 25) (.t 23))])
     (.reg [o 26 (.mv (.t 1)), o 27 (.bin .add (.t 26) (.c (.int .i64 1))), o 1 (.mv (.t 27))])))))
    (.reg [o 10 (.mv (.t 5)), o 11 (.bin .add (.t 10) (.c (.int .i64 1))), o 5 (.mv (.t 11))]))))))
  (.seq (.reg [o 28 (.mv (.t 1)), o 4 (.mv (.t 28))])
  (.ret))),
  [.tmp 4]⟩
/- loop.example/g03011/laws.szRequest -/
def F98 : Fun := ⟨25,
  .seq (.reg [o 2 (.box 3 (.t 0)), o 4 (.mv (.c (.int .i64 0)))])
  (.seq (.reg [o 5 (.mv (.t 1)), o 6 (.faddr 0 (.t 2)), o 7 (.load none (.t 6)), o 8 (.lenS (.t 7)), o 9 (.bin .sub (.t 5) (.t 8)), o 1 (.mv (.t 9))])
  (.seq (.seq (.reg [o 10 (.mv (.t 1)), o 11 (.bin .lss (.t 10) (.c (.int .i64 0)))])
  (.cond (.t 11) (.seq (.reg [o 4 (.mv (.c (.int .i64 (-1))))])
   (.ret)) (.skip)))
  (.seq (.reg [o 12 (.faddr 1 (.t 2)), o 13 (.load none (.t 12)), o 14 (.mv (.t 1)), o 15 (.call 104 [(.t 13), (.t 14)]), o 1 (.mv (.t 15))])
  (.seq (.seq (.reg [o 16 (.mv (.t 1)), o 17 (.bin .lss (.t 16) (.c (.int .i64 0)))])
  (.cond (.t 17) (.seq (.reg [o 4 (.mv (.c (.int .i64 (-1))))])
   (.ret)) (.skip)))
  (.seq (.reg [o 18 (.faddr 2 (.t 2)), o 19 (.load none (.t 18)), o 20 (.mv (.t 1)), o 21 (.call 104 [(.t 19), (.t 20)]), o 1 (.mv (.t 21))])
  (.seq (.seq (.reg [o 22 (.mv (.t 1)), o 23 (.bin .lss (.t 22) (.c (.int .i64 0)))])
  (.cond (.t 23) (.seq (.reg [o 4 (.mv (.c (.int .i64 (-1))))])
   (.ret)) (.skip)))
  (.seq (.reg [o 24 (.mv (.t 1)), o 4 (.mv (.t 24))])
  (.ret)))))))),
  [.tmp 4]⟩
/- loop.example/g03011/laws.szResponse -/
def F99 : Fun := ⟨19,
  .seq (.reg [o 2 (.box 3 (.t 0)), o 4 (.mv (.c (.int .i64 0)))])
  (.seq (.reg [o 5 (.faddr 1 (.t 2)), o 6 (.load none (.t 5)), o 7 (.mv (.t 1)), o 8 (.call 105 [(.t 6), (.t 7)]), o 1 (.mv (.t 8))])
  (.seq (.seq (.reg [o 9 (.mv (.t 1)), o 10 (.bin .lss (.t 9) (.c (.int .i64 0)))])
  (.cond (.t 10) (.seq (.reg [o 4 (.mv (.c (.int .i64 (-1))))])
   (.ret)) (.skip)))
  (.seq (.reg [o 11 (.mv (.t 1)), o 12 (.faddr 2 (.t 2)), o 13 (.load none (.t 12)), o 14 (.lenS (.t 13)), o 15 (.bin .sub (.t 11) (.t 14)), o 1 (.mv (.t 15))])
  (.seq (.seq (.reg [o 16 (.mv (.t 1)), o 17 (.bin .lss (.t 16) (.c (.int .i64 0)))])
  (.cond (.t 17) (.seq (.reg [o 4 (.mv (.c (.int .i64 (-1))))])
   (.ret)) (.skip)))
  (.seq (.reg [o 18 (.mv (.t 1)), o 4 (.mv (.t 18))])
  (.ret)))))),
  [.tmp 4]⟩
/- loop.example/g03011/laws.toRequest -/
def F100 : Fun := ⟨16,
  .seq (.reg [o 1 (.box 3 (.t 0)), o 2 (.new 3 [(.str []), .nsl, .nsl])])
  (.seq (.reg [o 3 (.new 3 [(.str []), .nsl, .nsl])])
  (.seq (.reg [o 4 (.faddr 0 (.t 1)), o 5 (.load none (.t 4)), o 6 (.faddr 0 (.t 3)), st (.store 1 (.t 6) (.t 5))])
  (.seq (.reg [o 7 (.faddr 1 (.t 1)), o 8 (.load none (.t 7)), o 9 (.call 106 [(.t 8)]), o 10 (.faddr 1 (.t 3)), st (.store 1 (.t 10) (.t 9))])
  (.seq (.reg [o 11 (.faddr 2 (.t 1)), o 12 (.load none (.t 11)), o 13 (.call 106 [(.t 12)]), o 14 (.faddr 2 (.t 3)), st (.store 1 (.t 14) (.t 13))])
  (.seq (.reg [o 15 (.load (some 3) (.t 3)), st (.store 3 (.t 2) (.t 15))])
  (.ret)))))),
  [.cell 2 (some 3)]⟩
/- loop.example/g03011/laws.toResponse -/
def F101 : Fun := ⟨15,
  .seq (.reg [o 1 (.box 3 (.t 0)), o 2 (.new 3 [(.int .i64 0), .nsl, (.str [])])])
  (.seq (.reg [o 3 (.new 3 [(.int .i64 0), .nsl, (.str [])])])
  (.seq (.reg [o 4 (.faddr 0 (.t 1)), o 5 (.load none (.t 4)), o 6 (.faddr 0 (.t 3)), st (.store 1 (.t 6) (.t 5))])
  (.seq (.reg [o 7 (.faddr 1 (.t 1)), o 8 (.load none (.t 7)), o 9 (.call 107 [(.t 8)]), o 10 (.faddr 1 (.t 3)), st (.store 1 (.t 10) (.t 9))])
  (.seq (.reg [o 11 (.faddr 2 (.t 1)), o 12 (.load none (.t 11)), o 13 (.faddr 2 (.t 3)), st (.store 1 (.t 13) (.t 12))])
  (.seq (.reg [o 14 (.load (some 3) (.t 3)), st (.store 3 (.t 2) (.t 14))])
  (.ret)))))),
  [.cell 2 (some 3)]⟩
/- loop.example/g03011/laws.eqRequest -/
def F102 : Fun := ⟨22,
  .seq (.reg [o 2 (.box 3 (.t 0)), o 3 (.box 3 (.t 1)), o 4 (.mv (.c (.bool false)))])
  (.seq (.seq (.reg [o 5 (.faddr 0 (.t 2)), o 6 (.load none (.t 5)), o 7 (.faddr 0 (.t 3)), o 8 (.load none (.t 7)), o 9 (.bin .neq (.t 6) (.t 8))])
  (.cond (.t 9) (.seq (.reg [o 4 (.mv (.c (.bool false)))])
   (.ret)) (.skip)))
  (.seq (.seq (.reg [o 10 (.faddr 1 (.t 2)), o 11 (.load none (.t 10)), o 12 (.faddr 1 (.t 3)), o 13 (.load none (.t 12)), o 14 (.call 108 [(.t 11), (.t 13)]), o 15 (.un .not (.t 14))])
  (.cond (.t 15) (.seq (.reg [o 4 (.mv (.c (.bool false)))])
   (.ret)) (.skip)))
  (.seq (.seq (.reg [o 16 (.faddr 2 (.t 2)), o 17 (.load none (.t 16)), o 18 (.faddr 2 (.t 3)), o 19 (.load none (.t 18)), o 20 (.call 108 [(.t 17), (.t 19)]), o 21 (.un .not (.t 20))])
  (.cond (.t 21) (.seq (.reg [o 4 (.mv (.c (.bool false)))])
   (.ret)) (.skip)))
  (.seq (.reg [o 4 (.mv (.c (.bool true)))])
  (.ret))))),
  [.tmp 4]⟩
/- loop.example/g03011/laws.eqResponse -/
def F103 : Fun := ⟨21,
  .seq (.reg [o 2 (.box 3 (.t 0)), o 3 (.box 3 (.t 1)), o 4 (.mv (.c (.bool false)))])
  (.seq (.seq (.reg [o 5 (.faddr 0 (.t 2)), o 6 (.load none (.t 5)), o 7 (.faddr 0 (.t 3)), o 8 (.load none (.t 7)), o 9 (.bin .neq (.t 6) (.t 8))])
  (.cond (.t 9) (.seq (.reg [o 4 (.mv (.c (.bool false)))])
   (.ret)) (.skip)))
  (.seq (.seq (.reg [o 10 (.faddr 1 (.t 2)), o 11 (.load none (.t 10)), o 12 (.faddr 1 (.t 3)), o 13 (.load none (.t 12)), o 14 (.call 109 [(.t 11), (.t 13)]), o 15 (.un .not (.t 14))])
  (.cond (.t 15) (.seq (.reg [o 4 (.mv (.c (.bool false)))])
   (.ret)) (.skip)))
  (.seq (.seq (.reg [o 16 (.faddr 2 (.t 2)), o 17 (.load none (.t 16)), o 18 (.faddr 2 (.t 3)), o 19 (.load none (.t 18)), o 20 (.bin .neq (.t 17) (.t 19))])
  (.cond (.t 20) (.seq (.reg [o 4 (.mv (.c (.bool false)))])
   (.ret)) (.skip)))
  (.seq (.reg [o 4 (.mv (.c (.bool true)))])
  (.ret))))),
  [.tmp 4]⟩
/- loop.example/g03011/laws.szPairS -/
def F104 : Fun := ⟨27,
  .seq (.reg [o 4 (.mv (.c (.int .i64 0)))])
  (.seq (.reg [o 6 (.mv (.t 1)), o 7 (.mv (.t 0)), o 8 (.lenL (.t 7)), o 9 (.bin .sub (.t 6) (.t 8)), o 1 (.mv (.t 9))])
  (.seq (.seq (.reg [o 10 (.mv (.t 1)), o 11 (.bin .lss (.t 10) (.c (.int .i64 0)))])
  (.cond (.t 11) (.seq (.reg [o 4 (.mv (.c (.int .i64 (-1))))])
   (.ret)) (.skip)))
  (.seq (.seq (.reg [o 5 (.mv (.c (.int .i64 0)))])
  (.block 0 (.loop (.seq (.seq (.reg [o 12 (.mv (.t 5)), o 13 (.mv (.t 0)), o 14 (.lenL (.t 13)), o 15 (.bin .lss (.t 12) (.t 14))])
    (.cond (.t 15) (.skip) (.exit 0)))
    (.seq (.block 1 (.seq (.reg [o 18 (.mv (.t 0)), o 19 (.mv (.t 5)), o 20 (.iaddr 2 (.t 18) (.t 19)), o 21 (.load (some 2) (.t 20)), o 22 (.mv (.t 1)), o 23 (.call 110 [(.t 21), (.t 22)]), o 1 (.mv (.t 23))])
     (.seq (.reg [o 24 (.mv (.t 1)), o 25 (.bin .lss (.t 24) (.c (.int .i64 0)))])
     (.cond (.t 25) (.seq (.reg [o 4 (.mv (.c (.int .i64 (-1))))])
      (.ret)) (.skip)))))
    (.reg [o 16 (.mv (.t 5)), o 17 (.bin .add (.t 16) (.c (.int .i64 1))), o 5 (.mv (.t 17))]))))))
  (.seq (.reg [o 26 (.mv (.t 1)), o 4 (.mv (.t 26))])
  (.ret))))),
  [.tmp 4]⟩
/- loop.example/g03011/laws.szHeaderS -/
def F105 : Fun := ⟨27,
  .seq (.reg [o 4 (.mv (.c (.int .i64 0)))])
  (.seq (.reg [o 6 (.mv (.t 1)), o 7 (.mv (.t 0)), o 8 (.lenL (.t 7)), o 9 (.bin .sub (.t 6) (.t 8)), o 1 (.mv (.t 9))])
  (.seq (.seq (.reg [o 10 (.mv (.t 1)), o 11 (.bin .lss (.t 10) (.c (.int .i64 0)))])
  (.cond (.t 11) (.seq (.reg [o 4 (.mv (.c (.int .i64 (-1))))])
   (.ret)) (.skip)))
  (.seq (.seq (.reg [o 5 (.mv (.c (.int .i64 0)))])
  (.block 0 (.loop (.seq (.seq (.reg [o 12 (.mv (.t 5)), o 13 (.mv (.t 0)), o 14 (.lenL (.t 13)), o 15 (.bin .lss (.t 12) (.t 14))])
    (.cond (.t 15) (.skip) (.exit 0)))
    (.seq (.block 1 (.seq (.reg [o 18 (.mv (.t 0)), o 19 (.mv (.t 5)), o 20 (.iaddr 2 (.t 18) (.t 19)), o 21 (.load (some 2) (.t 20)), o 22 (.mv (.t 1)), o 23 (.call 111 [(.t 21), (.t 22)]), o 1 (.mv (.t 23))])
     (.seq (.reg [o 24 (.mv (.t 1)), o 25 (.bin .lss (.t 24) (.c (.int .i64 0)))])
     (.cond (.t 25) (.seq (.reg [o 4 (.mv (.c (.int .i64 (-1))))])
      (.ret)) (.skip)))))
    (.reg [o 16 (.mv (.t 5)), o 17 (.bin .add (.t 16) (.c (.int .i64 1))), o 5 (.mv (.t 17))]))))))
  (.seq (.reg [o 26 (.mv (.t 1)), o 4 (.mv (.t 26))])
  (.ret))))),
  [.tmp 4]⟩
/- loop.example/g03011/laws.toPairS -/
def F106 : Fun := ⟨23,
  .seq (.reg [o 2 (.mv (.c .nsl))])
  (.seq (.reg [o 5 (.mv (.t 0)), o 6 (.lenL (.t 5)), o 7 (.mkslice 2 [(.str []), (.str [])] 32 (.t 6) (.t 6)), o 3 (.mv (.t 7))])
  (.seq (.seq (.reg [o 4 (.mv (.c (.int .i64 0)))])
  (.block 0 (.loop (.seq (.seq (.reg [o 8 (.mv (.t 4)), o 9 (.mv (.t 0)), o 10 (.lenL (.t 9)), o 11 (.bin .lss (.t 8) (.t 10))])
    (.cond (.t 11) (.skip) (.exit 0)))
    (.seq (.block 1 (.reg [o 14 (.mv (.t 3)), o 15 (.mv (.t 4)), o 16 (.mv (.t 0)), o 17 (.mv (.t 4)), o 18 (.iaddr 2 (.t 16) (.t 17)), o 19 (.load (some 2) (.t 18)), o 20 (.call 112 [(.t 19)]), o 21 (.iaddr 2 (.t 14) (.t 15)), st (.store 2 (.t 21) (.t 20))]))
    (.reg [o 12 (.mv (.t 4)), o 13 (.bin .add (.t 12) (.c (.int .i64 1))), o 4 (.mv (.t 13))]))))))
  (.seq (.reg [o 22 (.mv (.t 3)), o 2 (.mv (.t 22))])
  (.ret)))),
  [.tmp 2]⟩
/- loop.example/g03011/laws.toHeaderS -/
def F107 : Fun := ⟨23,
  .seq (.reg [o 2 (.mv (.c .nsl))])
  (.seq (.reg [o 5 (.mv (.t 0)), o 6 (.lenL (.t 5)), o 7 (.mkslice 2 [(.str []), (.str [])] 32 (.t 6) (.t 6)), o 3 (.mv (.t 7))])
  (.seq (.seq (.reg [o 4 (.mv (.c (.int .i64 0)))])
  (.block 0 (.loop (.seq (.seq (.reg [o 8 (.mv (.t 4)), o 9 (.mv (.t 0)), o 10 (.lenL (.t 9)), o 11 (.bin .lss (.t 8) (.t 10))])
    (.cond (.t 11) (.skip) (.exit 0)))
    (.seq (.block 1 (.reg [o 14 (.mv (.t 3)), o 15 (.mv (.t 4)), o 16 (.mv (.t 0)), o 17 (.mv (.t 4)), o 18 (.iaddr 2 (.t 16) (.t 17)), o 19 (.load (some 2) (.t 18)), o 20 (.call 113 [(.t 19)]), o 21 (.iaddr 2 (.t 14) (.t 15)), st (.store 2 (.t 21) (.t 20))]))
    (.reg [o 12 (.mv (.t 4)), o 13 (.bin .add (.t 12) (.c (.int .i64 1))), o 4 (.mv (.t 13))]))))))
  (.seq (.reg [o 22 (.mv (.t 3)), o 2 (.mv (.t 22))])
  (.ret)))),
  [.tmp 2]⟩
/- loop.example/g03011/laws.eqPairS -/
def F108 : Fun := ⟨27,
  .seq (.reg [o 4 (.mv (.c (.bool false)))])
  (.seq (.seq (.reg [o 6 (.mv (.t 0)), o 7 (.lenL (.t 6)), o 8 (.mv (.t 1)), o 9 (.lenL (.t 8)), o 10 (.bin .neq (.t 7) (.t 9))])
  (.cond (.t 10) (.seq (.reg [o 4 (.mv (.c (.bool false)))])
   (.ret)) (.skip)))
  (.seq (.seq (.reg [o 5 (.mv (.c (.int .i64 0)))])
  (.block 0 (.loop (.seq (.seq (.reg [o 11 (.mv (.t 5)), o 12 (.mv (.t 0)), o 13 (.lenL (.t 12)), o 14 (.bin .lss (.t 11) (.t 13))])
    (.cond (.t 14) (.skip) (.exit 0)))
    (.seq (.block 1 (.seq (.reg [o 17 (.mv (.t 0)), o 18 (.mv (.t 5)), o 19 (.iaddr 2 (.t 17) (.t 18)), o 20 (.load (some 2) (.t 19)), o 21 (.mv (.t 1)), o 22 (.mv (.t 5)), o 23 (.iaddr 2 (.t 21) (.t 22)), o 24 (.load (some 2) (.t 23)), o 25 (.callF 114 [(.t 20), (.t 24)]), o 26 (.un .not (.t 25))])
     (.cond (.t 26) (.seq (.reg [o 4 (.mv (.c (.bool false)))])
      (.ret)) (.skip))))
    (.reg [o 15 (.mv (.t 5)), o 16 (.bin .add (.t 15) (.c (.int .i64 1))), o 5 (.mv (.t 16))]))))))
  (.seq (.reg [o 4 (.mv (.c (.bool true)))])
  (.ret)))),
  [.tmp 4]⟩
/- loop.example/g03011/laws.eqHeaderS -/
def F109 : Fun := ⟨27,
  .seq (.reg [o 4 (.mv (.c (.bool false)))])
  (.seq (.seq (.reg [o 6 (.mv (.t 0)), o 7 (.lenL (.t 6)), o 8 (.mv (.t 1)), o 9 (.lenL (.t 8)), o 10 (.bin .neq (.t 7) (.t 9))])
  (.cond (.t 10) (.seq (.reg [o 4 (.mv (.c (.bool false)))])
   (.ret)) (.skip)))
  (.seq (.seq (.reg [o 5 (.mv (.c (.int .i64 0)))])
  (.block 0 (.loop (.seq (.seq (.reg [o 11 (.mv (.t 5)), o 12 (.mv (.t 0)), o 13 (.lenL (.t 12)), o 14 (.bin .lss (.t 11) (.t 13))])
    (.cond (.t 14) (.skip) (.exit 0)))
    (.seq (.block 1 (.seq (.reg [o 17 (.mv (.t 0)), o 18 (.mv (.t 5)), o 19 (.iaddr 2 (.t 17) (.t 18)), o 20 (.load (some 2) (.t 19)), o 21 (.mv (.t 1)), o 22 (.mv (.t 5)), o 23 (.iaddr 2 (.t 21) (.t 22)), o 24 (.load (some 2) (.t 23)), o 25 (.callF 115 [(.t 20), (.t 24)]), o 26 (.un .not (.t 25))])
     (.cond (.t 26) (.seq (.reg [o 4 (.mv (.c (.bool false)))])
      (.ret)) (.skip))))
    (.reg [o 15 (.mv (.t 5)), o 16 (.bin .add (.t 15) (.c (.int .i64 1))), o 5 (.mv (.t 16))]))))))
  (.seq (.reg [o 4 (.mv (.c (.bool true)))])
  (.ret)))),
  [.tmp 4]⟩
/- loop.example/g03011/laws.szPair -/
def F110 : Fun := ⟨20,
  .seq (.reg [o 2 (.box 2 (.t 0)), o 4 (.mv (.c (.int .i64 0)))])
  (.seq (.reg [o 5 (.mv (.t 1)), o 6 (.faddr 0 (.t 2)), o 7 (.load none (.t 6)), o 8 (.lenS (.t 7)), o 9 (.bin .sub (.t 5) (.t 8)), o 1 (.mv (.t 9))])
  (.seq (.seq (.reg [o 10 (.mv (.t 1)), o 11 (.bin .lss (.t 10) (.c (.int .i64 0)))])
  (.cond (.t 11) (.seq (.reg [o 4 (.mv (.c (.int .i64 (-1))))])
   (.ret)) (.skip)))
  (.seq (.reg [o 12 (.mv (.t 1)), o 13 (.faddr 1 (.t 2)), o 14 (.load none (.t 13)), o 15 (.lenS (.t 14)), o 16 (.bin .sub (.t 12) (.t 15)), o 1 (.mv (.t 16))])
  (.seq (.seq (.reg [o 17 (.mv (.t 1)), o 18 (.bin .lss (.t 17) (.c (.int .i64 0)))])
  (.cond (.t 18) (.seq (.reg [o 4 (.mv (.c (.int .i64 (-1))))])
   (.ret)) (.skip)))
  (.seq (.reg [o 19 (.mv (.t 1)), o 4 (.mv (.t 19))])
  (.ret)))))),
  [.tmp 4]⟩
/- loop.example/g03011/laws.szHeader -/
def F111 : Fun := ⟨20,
  .seq (.reg [o 2 (.box 2 (.t 0)), o 4 (.mv (.c (.int .i64 0)))])
  (.seq (.reg [o 5 (.mv (.t 1)), o 6 (.faddr 0 (.t 2)), o 7 (.load none (.t 6)), o 8 (.lenS (.t 7)), o 9 (.bin .sub (.t 5) (.t 8)), o 1 (.mv (.t 9))])
  (.seq (.seq (.reg [o 10 (.mv (.t 1)), o 11 (.bin .lss (.t 10) (.c (.int .i64 0)))])
  (.cond (.t 11) (.seq (.reg [o 4 (.mv (.c (.int .i64 (-1))))])
   (.ret)) (.skip)))
  (.seq (.reg [o 12 (.mv (.t 1)), o 13 (.faddr 1 (.t 2)), o 14 (.load none (.t 13)), o 15 (.lenS (.t 14)), o 16 (.bin .sub (.t 12) (.t 15)), o 1 (.mv (.t 16))])
  (.seq (.seq (.reg [o 17 (.mv (.t 1)), o 18 (.bin .lss (.t 17) (.c (.int .i64 0)))])
  (.cond (.t 18) (.seq (.reg [o 4 (.mv (.c (.int .i64 (-1))))])
   (.ret)) (.skip)))
  (.seq (.reg [o 19 (.mv (.t 1)), o 4 (.mv (.t 19))])
  (.ret)))))),
  [.tmp 4]⟩
/- loop.example/g03011/laws.toPair -/
def F112 : Fun := ⟨11,
  .seq (.reg [o 1 (.box 2 (.t 0)), o 2 (.new 2 [(.str []), (.str [])])])
  (.seq (.reg [o 3 (.new 2 [(.str []), (.str [])])])
  (.seq (.reg [o 4 (.faddr 0 (.t 1)), o 5 (.load none (.t 4)), o 6 (.faddr 0 (.t 3)), st (.store 1 (.t 6) (.t 5))])
  (.seq (.reg [o 7 (.faddr 1 (.t 1)), o 8 (.load none (.t 7)), o 9 (.faddr 1 (.t 3)), st (.store 1 (.t 9) (.t 8))])
  (.seq (.reg [o 10 (.load (some 2) (.t 3)), st (.store 2 (.t 2) (.t 10))])
  (.ret))))),
  [.cell 2 (some 2)]⟩
/- loop.example/g03011/laws.toHeader -/
def F113 : Fun := ⟨11,
  .seq (.reg [o 1 (.box 2 (.t 0)), o 2 (.new 2 [(.str []), (.str [])])])
  (.seq (.reg [o 3 (.new 2 [(.str []), (.str [])])])
  (.seq (.reg [o 4 (.faddr 0 (.t 1)), o 5 (.load none (.t 4)), o 6 (.faddr 0 (.t 3)), st (.store 1 (.t 6) (.t 5))])
  (.seq (.reg [o 7 (.faddr 1 (.t 1)), o 8 (.load none (.t 7)), o 9 (.faddr 1 (.t 3)), st (.store 1 (.t 9) (.t 8))])
  (.seq (.reg [o 10 (.load (some 2) (.t 3)), st (.store 2 (.t 2) (.t 10))])
  (.ret))))),
  [.cell 2 (some 2)]⟩
/- loop.example/g03011/laws.eqPair -/
def F114 : Fun := ⟨15,
  .seq (.reg [o 2 (.box 2 (.t 0)), o 3 (.box 2 (.t 1)), o 4 (.mv (.c (.bool false)))])
  (.seq (.seq (.reg [o 5 (.faddr 0 (.t 2)), o 6 (.load none (.t 5)), o 7 (.faddr 0 (.t 3)), o 8 (.load none (.t 7)), o 9 (.bin .neq (.t 6) (.t 8))])
  (.cond (.t 9) (.seq (.reg [o 4 (.mv (.c (.bool false)))])
   (.ret)) (.skip)))
  (.seq (.seq (.reg [o 10 (.faddr 1 (.t 2)), o 11 (.load none (.t 10)), o 12 (.faddr 1 (.t 3)), o 13 (.load none (.t 12)), o 14 (.bin .neq (.t 11) (.t 13))])
  (.cond (.t 14) (.seq (.reg [o 4 (.mv (.c (.bool false)))])
   (.ret)) (.skip)))
  (.seq (.reg [o 4 (.mv (.c (.bool true)))])
  (.ret)))),
  [.tmp 4]⟩
/- loop.example/g03011/laws.eqHeader -/
def F115 : Fun := ⟨15,
  .seq (.reg [o 2 (.box 2 (.t 0)), o 3 (.box 2 (.t 1)), o 4 (.mv (.c (.bool false)))])
  (.seq (.seq (.reg [o 5 (.faddr 0 (.t 2)), o 6 (.load none (.t 5)), o 7 (.faddr 0 (.t 3)), o 8 (.load none (.t 7)), o 9 (.bin .neq (.t 6) (.t 8))])
  (.cond (.t 9) (.seq (.reg [o 4 (.mv (.c (.bool false)))])
   (.ret)) (.skip)))
  (.seq (.seq (.reg [o 10 (.faddr 1 (.t 2)), o 11 (.load none (.t 10)), o 12 (.faddr 1 (.t 3)), o 13 (.load none (.t 12)), o 14 (.bin .neq (.t 11) (.t 13))])
  (.cond (.t 14) (.seq (.reg [o 4 (.mv (.c (.bool false)))])
   (.ret)) (.skip)))
  (.seq (.reg [o 4 (.mv (.c (.bool true)))])
  (.ret)))),
  [.tmp 4]⟩

theorem c3 : compF Try.prog 3 = some F3 := by kernel_rfl
theorem c4 : compF Try.prog 4 = some F4 := by kernel_rfl
theorem c5 : compF Try.prog 5 = some F5 := by kernel_rfl
theorem c6 : compF Try.prog 6 = some F6 := by kernel_rfl
theorem c7 : compF Try.prog 7 = some F7 := by kernel_rfl
theorem c8 : compF Try.prog 8 = some F8 := by kernel_rfl
theorem c9 : compF Try.prog 9 = some F9 := by kernel_rfl
theorem c10 : compF Try.prog 10 = some F10 := by kernel_rfl
theorem c11 : compF Try.prog 11 = some F11 := by kernel_rfl
theorem c12 : compF Try.prog 12 = some F12 := by kernel_rfl
theorem c13 : compF Try.prog 13 = some F13 := by kernel_rfl
theorem c14 : compF Try.prog 14 = some F14 := by kernel_rfl
theorem c15 : compF Try.prog 15 = some F15 := by kernel_rfl
theorem c16 : compF Try.prog 16 = some F16 := by kernel_rfl
theorem c17 : compF Try.prog 17 = some F17 := by kernel_rfl
theorem c18 : compF Try.prog 18 = some F18 := by kernel_rfl
theorem c19 : compF Try.prog 19 = some F19 := by kernel_rfl
theorem c20 : compF Try.prog 20 = some F20 := by kernel_rfl
theorem c21 : compF Try.prog 21 = some F21 := by kernel_rfl
theorem c22 : compF Try.prog 22 = some F22 := by kernel_rfl
theorem c23 : compF Try.prog 23 = some F23 := by kernel_rfl
theorem c24 : compF Try.prog 24 = some F24 := by kernel_rfl
theorem c25 : compF Try.prog 25 = some F25 := by kernel_rfl
theorem c26 : compF Try.prog 26 = some F26 := by kernel_rfl
theorem c27 : compF Try.prog 27 = some F27 := by kernel_rfl
theorem c28 : compF Try.prog 28 = some F28 := by kernel_rfl
theorem c29 : compF Try.prog 29 = some F29 := by kernel_rfl
theorem c30 : compF Try.prog 30 = some F30 := by kernel_rfl
theorem c31 : compF Try.prog 31 = some F31 := by kernel_rfl
theorem c32 : compF Try.prog 32 = some F32 := by kernel_rfl
theorem c33 : compF Try.prog 33 = some F33 := by kernel_rfl
theorem c34 : compF Try.prog 34 = some F34 := by kernel_rfl
theorem c35 : compF Try.prog 35 = some F35 := by kernel_rfl
theorem c36 : compF Try.prog 36 = some F36 := by kernel_rfl
theorem c37 : compF Try.prog 37 = some F37 := by kernel_rfl
theorem c38 : compF Try.prog 38 = some F38 := by kernel_rfl
theorem c39 : compF Try.prog 39 = some F39 := by kernel_rfl
theorem c40 : compF Try.prog 40 = some F40 := by kernel_rfl
theorem c41 : compF Try.prog 41 = some F41 := by kernel_rfl
theorem c42 : compF Try.prog 42 = some F42 := by kernel_rfl
theorem c43 : compF Try.prog 43 = some F43 := by kernel_rfl
theorem c44 : compF Try.prog 44 = some F44 := by kernel_rfl
theorem c45 : compF Try.prog 45 = some F45 := by kernel_rfl
theorem c46 : compF Try.prog 46 = some F46 := by kernel_rfl
theorem c47 : compF Try.prog 47 = some F47 := by kernel_rfl
theorem c48 : compF Try.prog 48 = some F48 := by kernel_rfl
theorem c49 : compF Try.prog 49 = some F49 := by kernel_rfl
theorem c50 : compF Try.prog 50 = some F50 := by kernel_rfl
theorem c51 : compF Try.prog 51 = some F51 := by kernel_rfl
theorem c52 : compF Try.prog 52 = some F52 := by kernel_rfl
theorem c53 : compF Try.prog 53 = some F53 := by kernel_rfl
theorem c54 : compF Try.prog 54 = some F54 := by kernel_rfl
theorem c55 : compF Try.prog 55 = some F55 := by kernel_rfl
theorem c56 : compF Try.prog 56 = some F56 := by kernel_rfl
theorem c57 : compF Try.prog 57 = some F57 := by kernel_rfl
theorem c58 : compF Try.prog 58 = some F58 := by kernel_rfl
theorem c59 : compF Try.prog 59 = some F59 := by kernel_rfl
theorem c60 : compF Try.prog 60 = some F60 := by kernel_rfl
theorem c61 : compF Try.prog 61 = some F61 := by kernel_rfl
theorem c62 : compF Try.prog 62 = some F62 := by kernel_rfl
theorem c63 : compF Try.prog 63 = some F63 := by kernel_rfl
theorem c64 : compF Try.prog 64 = some F64 := by kernel_rfl
theorem c65 : compF Try.prog 65 = some F65 := by kernel_rfl
theorem c66 : compF Try.prog 66 = some F66 := by kernel_rfl
theorem c67 : compF Try.prog 67 = some F67 := by kernel_rfl
theorem c68 : compF Try.prog 68 = some F68 := by kernel_rfl
theorem c69 : compF Try.prog 69 = some F69 := by kernel_rfl
theorem c70 : compF Try.prog 70 = some F70 := by kernel_rfl
theorem c71 : compF Try.prog 71 = some F71 := by kernel_rfl
theorem c72 : compF Try.prog 72 = some F72 := by kernel_rfl
theorem c73 : compF Try.prog 73 = some F73 := by kernel_rfl
theorem c74 : compF Try.prog 74 = some F74 := by kernel_rfl
theorem c75 : compF Try.prog 75 = some F75 := by kernel_rfl
theorem c76 : compF Try.prog 76 = some F76 := by kernel_rfl
theorem c77 : compF Try.prog 77 = some F77 := by kernel_rfl
theorem c78 : compF Try.prog 78 = some F78 := by kernel_rfl
theorem c79 : compF Try.prog 79 = some F79 := by kernel_rfl
theorem c80 : compF Try.prog 80 = some F80 := by kernel_rfl
theorem c81 : compF Try.prog 81 = some F81 := by kernel_rfl
theorem c82 : compF Try.prog 82 = some F82 := by kernel_rfl
theorem c83 : compF Try.prog 83 = some F83 := by kernel_rfl
theorem c84 : compF Try.prog 84 = some F84 := by kernel_rfl
theorem c85 : compF Try.prog 85 = some F85 := by kernel_rfl
theorem c86 : compF Try.prog 86 = some F86 := by kernel_rfl
theorem c87 : compF Try.prog 87 = some F87 := by kernel_rfl
theorem c88 : compF Try.prog 88 = some F88 := by kernel_rfl
theorem c89 : compF Try.prog 89 = some F89 := by kernel_rfl
theorem c90 : compF Try.prog 90 = some F90 := by kernel_rfl
theorem c91 : compF Try.prog 91 = some F91 := by kernel_rfl
theorem c92 : compF Try.prog 92 = some F92 := by kernel_rfl
theorem c93 : compF Try.prog 93 = some F93 := by kernel_rfl
theorem c94 : compF Try.prog 94 = some F94 := by kernel_rfl
theorem c95 : compF Try.prog 95 = some F95 := by kernel_rfl
theorem c96 : compF Try.prog 96 = some F96 := by kernel_rfl
theorem c97 : compF Try.prog 97 = some F97 := by kernel_rfl
theorem c98 : compF Try.prog 98 = some F98 := by kernel_rfl
theorem c99 : compF Try.prog 99 = some F99 := by kernel_rfl
theorem c100 : compF Try.prog 100 = some F100 := by kernel_rfl
theorem c101 : compF Try.prog 101 = some F101 := by kernel_rfl
theorem c102 : compF Try.prog 102 = some F102 := by kernel_rfl
theorem c103 : compF Try.prog 103 = some F103 := by kernel_rfl
theorem c104 : compF Try.prog 104 = some F104 := by kernel_rfl
theorem c105 : compF Try.prog 105 = some F105 := by kernel_rfl
theorem c106 : compF Try.prog 106 = some F106 := by kernel_rfl
theorem c107 : compF Try.prog 107 = some F107 := by kernel_rfl
theorem c108 : compF Try.prog 108 = some F108 := by kernel_rfl
theorem c109 : compF Try.prog 109 = some F109 := by kernel_rfl
theorem c110 : compF Try.prog 110 = some F110 := by kernel_rfl
theorem c111 : compF Try.prog 111 = some F111 := by kernel_rfl
theorem c112 : compF Try.prog 112 = some F112 := by kernel_rfl
theorem c113 : compF Try.prog 113 = some F113 := by kernel_rfl
theorem c114 : compF Try.prog 114 = some F114 := by kernel_rfl
theorem c115 : compF Try.prog 115 = some F115 := by kernel_rfl
end A
end Go.Proofs.Ytfcimcoanlgldaa
